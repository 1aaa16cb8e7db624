/- Part of the proof that the statement named in the last file holds: lemmas of the prover's own. No conditions. -/
import Derived.Test.YtlaanieheglnjaaDC
namespace Go.Proofs
open Go Go.V
set_option maxRecDepth 100000
set_option linter.unusedVariables false

theorem cmpD_self' (b : Int × Int) : ¬ cmpD b b < 0 := by rw [cmpD_self]; omega
theorem sameR_refl (R : AR) : sameR R R = true := by
  have h1 : eqDep R.deps R.deps = true := eqDep_iff.2 fun _ _ => rfl
  have h2 : eqB R.b R.b = true := eqB_iff.2 rfl
  have h3 : eqB R.a R.a = true := eqB_iff.2 rfl
  simp [sameR, h1, h2, h3]
/-- A message that is told twice. -/
theorem DoR.twice {T T1 T2 : Int × Int → AR} {M : MA} {ok1 ok2 : Bool} {e1 e2 : Int} {b1 b2 : Int × Int} {R1 R2 : AR} (h : DoR T M ok1 e1 b1 R1 T1) (h' : DoR T1 M ok2 e2 b2 R2 T2) : e1 = e2 ∧ ok1 = ok2 ∧ T2 M.dot = T1 M.dot := by
  rcases h with ⟨m1, rfl, rfl, _, _, rfl⟩ | ⟨m1, rfl, _, _, h⟩ <;> rcases h' with ⟨m2, rfl, rfl, _, _, rfl⟩ | ⟨m2, rfl, _, _, h'⟩
  · exact ⟨rfl, rfl, rfl⟩
  · rw [m1] at m2; cases m2
  · rw [m1] at m2; cases m2
  refine ⟨rfl, ?_⟩
  rcases h with ⟨o1, rfl⟩ | ⟨o1, rfl, seq, deps, hW, rfl⟩
  · rcases h' with ⟨o2, rfl⟩ | ⟨o2, _⟩
    · rw [o1] at o2; cases o2; exact ⟨rfl, rfl⟩
    · rw [o1] at o2; cases o2
  · have hT : updT T M.dot (newA M (T M.dot) seq deps) M.dot = newA M (T M.dot) seq deps := if_pos rfl
    rw [hT] at h' ⊢
    have hst : (T M.dot).st ≠ 3 := by
      intro h3; simp [oldA, h3] at o1
    obtain ⟨hk, _⟩ := mayA_iff m1
    have cs := cmpD_self' M.b
    by_cases k1 : M.kind = 1
    · have hn : newA M (T M.dot) seq deps = ⟨1, M.cmd, if seq > M.seq then seq else M.seq, vmax M.deps deps, M.b, M.b⟩ := if_pos k1
      have ho : oldA M (newA M (T M.dot) seq deps) = some true := by rw [hn]; simp [oldA, k1, cs]
      rcases h' with ⟨o2, rfl⟩ | ⟨o2, _⟩
      · rw [ho] at o2; cases o2; exact ⟨rfl, hT⟩
      · rw [ho] at o2; cases o2
    by_cases k2 : M.kind = 2
    · have hn : ∀ R s d, newA M R s d = ⟨2, M.cmd, M.seq, M.deps, M.b, M.b⟩ := fun R s d => by simp [newA, k2]
      have ho : oldA M (newA M (T M.dot) seq deps) = none := by rw [hn]; simp [oldA, k2, cs]
      rcases h' with ⟨o2, _⟩ | ⟨o2, rfl, s, d, _, rfl⟩
      · rw [ho] at o2; cases o2
      · refine ⟨rfl, ?_⟩
        simp only [updT, if_true]; rw [hn, hn]
    by_cases k3 : M.kind = 3
    · have hn : newA M (T M.dot) seq deps = ⟨3, M.cmd, M.seq, M.deps, mostB M.b (T M.dot).b, mostB M.b (T M.dot).a⟩ := by simp [newA, k3]
      have ho : oldA M (newA M (T M.dot) seq deps) = some true := by rw [hn]; simp [oldA, k3]
      rcases h' with ⟨o2, rfl⟩ | ⟨o2, _⟩
      · rw [ho] at o2; cases o2; exact ⟨rfl, hT⟩
      · rw [ho] at o2; cases o2
    · have hn : ∀ R s d, newA M R s d = { R with b := M.b } := fun R s d => by simp [newA, k1, k2, k3]
      have ho : oldA M (newA M (T M.dot) seq deps) = none := by rw [hn]; simp [oldA, k1, k3, cs, hst]
      rcases h' with ⟨o2, _⟩ | ⟨o2, rfl, s, d, _, rfl⟩
      · rw [ho] at o2; cases o2
      · refine ⟨rfl, ?_⟩
        simp only [updT, if_true]; rw [hn, hn]

set_option maxHeartbeats 1000000 in
theorem s_InstTwice (h : Nat → Option Obj) (v : Value) (L : List MA) (hv : MsgsIs h v L) :
    Ctr Try.prog F_rostrumlaw20_InstTwice [.raw v] [.heap h] (fun x H => x = bv true ∧ ∃ h', H = [.heap h'] ∧ Sub h h') := by
  obtain ⟨la, lc, rfl⟩ := hv.shape
  refine i_rostrumlaw20_InstTwice.spec follows ?_
  refine VCall.mk [0] (s_awake h) ⟨rfl, rfl, rfl⟩ ?_
  rintro _ _ ⟨rfl, h0, rfl, hs0⟩
  refine And.intro (fun h => absurd h (by simp)) (fun _ => ?_)
  refine VCall.mk [0] (s_light h0 _ L (hv.mono hs0)) ⟨rfl, rfl, rfl⟩ ?_
  rintro _ _ ⟨rfl, rfl⟩
  refine And.intro (fun hl => ?_) (fun hl => ?_)
  · exact VRet.mk [0] (bv true) [.heap h0] ⟨rfl, rfl, rfl⟩ ⟨rfl, h0, rfl, hs0⟩
  have hlight : lightB L = true := by simpa using hl
  have hL : L.length ≤ 40 := by
    simp only [lightB, Bool.and_eq_true, decide_eq_true_eq] at hlight
    exact hlight.1
  refine VCall.mk [] s_New ⟨rfl, rfl, rfl⟩ ?_
  rintro _ _ ⟨rfl, rfl⟩
  refine VLoop.mk HX (fun x => [(0, .raw (.slice la L.length lc)), (3, .ptr 1 0), (4, iv x.i)]) (fun x => [.heap x.h, tbl 2, rmap x.ms x.c])
    (fun x => x.i ≤ L.length ∧ Tab x.h x.ms x.c x.T (1099511627776 + 2 * x.i) ∧ Sub h x.h ∧ x.ms.length ≤ 2 * x.i) (fun x => L.length - x.i) ⟨0, [], 0, fun _ => zeroA, h0⟩ [0, 1, 2]
    ⟨⟨Nat.zero_le _, Tab.nil _ (by show (0 : Int) ≤ 1099511627776 + 2 * ((0 : Nat) : Int); decide), hs0, Nat.le_refl _⟩, rfl, rfl, rfl⟩ ?_
  rintro ⟨i, ms, c, T, h1⟩ ⟨hi, ht, hs, hml⟩ g
  simp only at hi ht hs hml
  refine And.intro (fun h2 => ?_) (fun h2 => ?_)
  · have h2 := of_decide_eq_true h2
    have hil : i < L.length := by simp only at h2; omega
    have hw : IntKind.i64.wrap ((i : Int) + 1) = ((i + 1 : Nat) : Int) := wrap64 (by omega)
    obtain ⟨bb, o, xs, e, fr, m, rfl, hh, hc, hm⟩ := (hv.mono hs).at hil
    have hc2 := cut_sub hc 1 2 (by omega)
    have hn : (0 : Int) ≤ (i : Int) ∧ (i : Int) < (L.length : Nat) := ⟨Int.natCast_nonneg i, by omega⟩
    have hdot : m.dot = L[i].dot := hm.dot
    refine And.intro hn ?_
    refine Exists.intro 0 (Exists.intro xs (Exists.intro e (Exists.intro fr (And.intro hh (Exists.intro _ (And.intro (by rw [Int.toNat_natCast]; exact hc) ?_))))))
    refine VCall.mk [1, 2, 0] (s_Do2 h1 ms c T _ ht (by omega) m L[i] hm) ⟨rfl, rfl, rfl⟩ ?_
    rintro _ _ ⟨ok1, e1, b1, r1, R1, T1, ms1, c1, h2', rfl, rfl, hs1, ht1, hr1, hD1, hl1⟩
    obtain ⟨ra1, rc1, hrc1⟩ := hr1.cmd.shape
    obtain ⟨rst1, rcmd1, rseq1, rdeps1, rb1, raa1⟩ := r1
    simp only at hrc1
    subst hrc1
    refine And.intro hn ?_
    refine Exists.intro 0 (Exists.intro xs (Exists.intro e (Exists.intro fr (And.intro (hs1 _ _ hh) (Exists.intro _ (And.intro (by rw [Int.toNat_natCast]; exact hc2) ?_))))))
    refine VCall.mk [1, 2, 0] (s_Rec h2' ms1 c1 T1 _ ht1 m.dot) ⟨rfl, rfl, rfl⟩ ?_
    rintro _ _ ⟨w, h3, rfl, hrw, rfl, hs2⟩
    obtain ⟨wa, wc, hwc⟩ := hrw.cmd.shape
    obtain ⟨wst, wcmd, wseq, wdeps, wb, waa⟩ := w
    simp only at hwc
    subst hwc
    refine And.intro hn ?_
    refine Exists.intro 0 (Exists.intro xs (Exists.intro e (Exists.intro fr (And.intro (hs2 _ _ (hs1 _ _ hh)) (Exists.intro _ (And.intro (by rw [Int.toNat_natCast]; exact hc) ?_))))))
    refine VCall.mk [1, 2, 0] (s_Do2 h3 ms1 c1 T1 _ (ht1.mono hs2) (by omega) m L[i] ((hm.mono hs1).mono hs2)) ⟨rfl, rfl, rfl⟩ ?_
    rintro _ _ ⟨ok2, e2, b2, r2, R2, T2, ms2, c2, h4, rfl, rfl, hs3, ht2, hr2, hD2, hl2⟩
    obtain ⟨ra2, rc2, hrc2⟩ := hr2.cmd.shape
    obtain ⟨rst2, rcmd2, rseq2, rdeps2, rb2, raa2⟩ := r2
    simp only at hrc2
    subst hrc2
    obtain ⟨rfl, rfl, hT⟩ := hD1.twice hD2
    refine And.intro (fun _ => ?_) (fun h => absurd h (by simp))
    refine And.intro (fun _ => ?_) (fun h => absurd h (by simp))
    refine And.intro hn ?_
    refine Exists.intro 0 (Exists.intro xs (Exists.intro e (Exists.intro fr (And.intro (hs3 _ _ (hs2 _ _ (hs1 _ _ hh))) (Exists.intro _ (And.intro (by rw [Int.toNat_natCast]; exact hc2) ?_))))))
    refine VCall.mk [1, 2, 0] (s_Rec h4 ms2 c2 T2 _ ht2 m.dot) ⟨rfl, rfl, rfl⟩ ?_
    rintro _ _ ⟨u, h5, rfl, hru, rfl, hs4⟩
    obtain ⟨ua, uc, huc⟩ := hru.cmd.shape
    obtain ⟨ust, ucmd, useq, udeps, ub, uaa⟩ := u
    simp only at huc
    subst huc
    refine And.intro rfl ?_
    refine VCall.mk [0] (s_Same h5 _ _ _ _ ((hrw.mono hs3).mono hs4) hru) ⟨rfl, rfl, rfl⟩ ?_
    rintro _ _ ⟨rfl, rfl⟩
    have hsame : sameR (T1 m.dot) (T2 m.dot) = true := by rw [hdot, hT]; exact sameR_refl _
    rw [hsame]
    refine And.intro (fun h => absurd h (by simp)) (fun _ => ?_)
    refine Exists.intro _ (And.intro hw ?_)
    exact Exists.intro ⟨i + 1, ms2, c2, T2, h5⟩ (Exists.intro [0, 1, 2] (And.intro ⟨⟨hil, (ht2.mono hs4).up (by simp only; omega), (((hs.trans hs1).trans hs2).trans hs3).trans hs4, by simp only; omega⟩, by simp only; omega⟩ ⟨rfl, rfl, rfl⟩))
  · exact VRet.mk [0] (bv true) [.heap h1] ⟨rfl, rfl, rfl⟩ ⟨rfl, h1, rfl, hs⟩
end Go.Proofs

namespace Go.Proofs
open Go Go.V
set_option maxRecDepth 100000
set_option linter.unusedVariables false

theorem cmpI_lt {a b : Int} : cmpI a b < 0 ↔ a < b := by
  unfold cmpI; split
  · simp_all
  · split <;> simp_all
theorem cmpD_lt' {x y : Int × Int} : cmpD x y < 0 ↔ x.1 < y.1 ∨ (x.1 = y.1 ∧ x.2 < y.2) := cmpD_lt
theorem cmpD_gt {x y : Int × Int} : 0 < cmpD x y ↔ y.1 < x.1 ∨ (x.1 = y.1 ∧ y.2 < x.2) := by
  simp only [cmpD, orI, cmpI]
  by_cases h1 : x.1 < y.1
  · simp [h1]; omega
  · by_cases h2 : y.1 < x.1
    · simp [h1, h2]
    · by_cases h3 : x.2 < y.2
      · simp [h1, h2, h3]; omega
      · by_cases h4 : y.2 < x.2
        · simp [h1, h2, h3, h4]; omega
        · simp [h1, h2, h3, h4]
theorem mostB_ge (a b : Int × Int) : ¬ cmpD (mostB a b) b < 0 ∧ ¬ cmpD (mostB a b) a < 0 := by
  unfold mostB
  split
  · rename_i h
    rw [cmpD_gt] at h
    exact ⟨cmpD_self' b, by rw [cmpD_lt']; omega⟩
  · rename_i h
    rw [cmpD_gt] at h
    exact ⟨by rw [cmpD_lt']; omega, cmpD_self' a⟩
/-- The ballot at which something was heard is none beyond the promise. -/
def AtOK (T : Int × Int → AR) : Prop := ∀ d, ¬ cmpD (T d).b (T d).a < 0
theorem AtOK.zero : AtOK (fun _ => zeroA) := fun _ => cmpD_self' _
theorem mostB_mono {m a b : Int × Int} (h : ¬ cmpD b a < 0) : ¬ cmpD (mostB m b) (mostB m a) < 0 := by
  unfold mostB
  rw [cmpD_lt'] at h
  have h1 := @cmpD_gt b m
  have h2 := @cmpD_gt a m
  split <;> split <;> rename_i g1 g2 <;> rw [cmpD_lt'] <;> first | omega | (rw [h1] at g1; rw [h2] at g2; omega)
theorem oldA_none {M : MA} {R : AR} (h : oldA M R = none) : R.st ≠ 3 ∧ (M.kind ≠ 3 → ¬ cmpD M.b R.b < 0 ∧ (M.kind = 1 → R.st ≠ 2 ∧ ¬ (R.st = 1 ∧ R.a = M.b))) := by
  unfold oldA at h
  by_cases h1 : R.st = 3
  · simp [h1] at h
  refine ⟨h1, fun h2 => ?_⟩
  by_cases h3 : cmpD M.b R.b < 0
  · simp [h1, h2, h3] at h
  refine ⟨h3, fun h4 => ?_⟩
  by_cases h5 : R.st = 2
  · simp [h4, h5] at h
  refine ⟨h5, fun ⟨h6, h7⟩ => ?_⟩
  simp [h4, h6, h7, h3] at h
theorem oldA_true {M : MA} {R : AR} (h : oldA M R = some true) : M.kind = 3 ∨ (R.st ≠ 3 ∧ ¬ cmpD M.b R.b < 0 ∧ M.kind = 1 ∧ R.st = 1 ∧ R.a = M.b) := by
  unfold oldA at h
  by_cases h1 : R.st = 3
  · left; simpa [h1] using h
  by_cases h2 : M.kind = 3
  · exact .inl h2
  right
  by_cases h3 : cmpD M.b R.b < 0
  · simp [h1, h2, h3] at h
  by_cases h4 : M.kind = 1
  · by_cases h5 : R.st = 2
    · simp [h4, h5] at h
    · simp [h1, h3, h4, h5, cond_eq_ite] at h
      exact ⟨h1, h3, h4, h.1, Prod.ext h.2.1 h.2.2⟩
  · simp [h1, h2, h3, h4] at h
structure Kept (M : MA) (R S : AR) (ok : Bool) : Prop where
  up : ¬ cmpD S.b R.b < 0
  com : R.st = 3 → sameR R S = true
  no : ok = false → sameR R S = true
  yes : ok = true → M.kind ≠ 3 → ¬ cmpD M.b R.b < 0 ∧ S.b = M.b
  acc : R.st = 2 → ¬ S.st < 2
  hear : ok = true → M.kind = 1 → ¬ (R.st = 1 ∧ R.a = M.b) → (∀ i, i < 7 → M.deps i ≤ S.deps i) ∧ ¬ S.seq < M.seq
theorem vmax_le (d d' : Nat → Int) (i : Nat) : d i ≤ vmax d d' i := by simp only [vmax]; split <;> omega
theorem DoR.kept {T T' : Int × Int → AR} {M : MA} {ok : Bool} {e : Int} {b : Int × Int} {R : AR} (h : DoR T M ok e b R T') (hm : mayA M = true) (ha : AtOK T) : e = 0 ∧ AtOK T' ∧ Kept M (T M.dot) (T' M.dot) ok := by
  rcases h with ⟨h1, _⟩ | ⟨_, rfl, _, _, ⟨ho, rfl⟩ | ⟨ho, rfl, seq, deps, hW, rfl⟩⟩
  · rw [hm] at h1; cases h1
  · refine ⟨rfl, ha, ⟨cmpD_self' _, fun _ => sameR_refl _, fun _ => sameR_refl _, fun h1 h2 => ?_, fun h1 => by omega, fun h1 h2 h3 => ?_⟩⟩
    · subst h1
      rcases oldA_true ho with h3 | ⟨_, h4, _, _, h7⟩
      · exact absurd h3 h2
      · refine ⟨h4, ?_⟩
        have := ha M.dot
        rw [h7] at this
        rw [cmpD_lt'] at this h4
        exact Prod.ext (by omega) (by omega)
    · subst h1
      rcases oldA_true ho with h4 | ⟨_, _, _, h5, h6⟩
      · omega
      · exact absurd ⟨h5, h6⟩ h3
  · obtain ⟨hst, hno⟩ := oldA_none ho
    have hT : updT T M.dot (newA M (T M.dot) seq deps) M.dot = newA M (T M.dot) seq deps := if_pos rfl
    have hat := ha M.dot
    refine ⟨rfl, ?_, ?_⟩
    · intro d
      unfold updT
      split
      · by_cases k1 : M.kind = 1
        · rw [show newA M (T M.dot) seq deps = ⟨1, M.cmd, if seq > M.seq then seq else M.seq, vmax M.deps deps, M.b, M.b⟩ from if_pos k1]
          exact cmpD_self' _
        by_cases k2 : M.kind = 2
        · rw [show newA M (T M.dot) seq deps = ⟨2, M.cmd, M.seq, M.deps, M.b, M.b⟩ by simp [newA, k2]]
          exact cmpD_self' _
        by_cases k3 : M.kind = 3
        · rw [show newA M (T M.dot) seq deps = ⟨3, M.cmd, M.seq, M.deps, mostB M.b (T M.dot).b, mostB M.b (T M.dot).a⟩ by simp [newA, k3]]
          exact mostB_mono hat
        · rw [show newA M (T M.dot) seq deps = { T M.dot with b := M.b } by simp [newA, k1, k2, k3]]
          have h9 := (hno k3).1
          show ¬ cmpD M.b (T M.dot).a < 0
          rw [cmpD_lt'] at h9 hat ⊢; omega
      · exact ha d
    · rw [hT]
      by_cases k1 : M.kind = 1
      · have hn : newA M (T M.dot) seq deps = ⟨1, M.cmd, if seq > M.seq then seq else M.seq, vmax M.deps deps, M.b, M.b⟩ := if_pos k1
        obtain ⟨n1, n2⟩ := hno (by omega)
        rw [hn]
        exact ⟨n1, fun h => absurd h hst, fun h => (by cases h), fun _ _ => ⟨n1, rfl⟩, fun h => absurd h (n2 k1).1, fun _ _ _ => ⟨fun i _ => vmax_le _ _ i, by simp only; split <;> omega⟩⟩
      by_cases k2 : M.kind = 2
      · have hn : newA M (T M.dot) seq deps = ⟨2, M.cmd, M.seq, M.deps, M.b, M.b⟩ := by simp [newA, k2]
        obtain ⟨n1, n2⟩ := hno (by omega)
        rw [hn]
        exact ⟨n1, fun h => absurd h hst, fun h => (by cases h), fun _ _ => ⟨n1, rfl⟩, fun _ => (by simp), fun _ h => absurd h k1⟩
      by_cases k3 : M.kind = 3
      · have hn : newA M (T M.dot) seq deps = ⟨3, M.cmd, M.seq, M.deps, mostB M.b (T M.dot).b, mostB M.b (T M.dot).a⟩ := by simp [newA, k3]
        rw [hn]
        exact ⟨(mostB_ge _ _).1, fun h => absurd h hst, fun h => (by cases h), fun _ h => absurd k3 h, fun _ => (by simp), fun _ h => absurd h k1⟩
      · have hn : newA M (T M.dot) seq deps = { T M.dot with b := M.b } := by simp [newA, k1, k2, k3]
        obtain ⟨n1, n2⟩ := hno k3
        rw [hn]
        exact ⟨n1, fun h => absurd h hst, fun h => (by cases h), fun _ _ => ⟨n1, rfl⟩, fun h => (by simp only; omega), fun _ h => absurd h k1⟩
end Go.Proofs

namespace Go.Proofs
open Go Go.V
set_option maxRecDepth 100000
set_option linter.unusedVariables false

def leB (v w : Nat → Int) : Bool := (List.range 7).all fun i => decide (v i ≤ w i)
theorem leB_iff {v w : Nat → Int} : leB v w = true ↔ ∀ i, i < 7 → v i ≤ w i := by simp [leB]
theorem s_vec_Le (v w : Nat → Int) : Ctr Try.prog F_vec_Le [.agg (vcells v), .agg (vcells w)] [] (fun x H => x = bv (leB v w) ∧ H = []) := by
  refine i_vec_Le.spec follows ?_
  refine VLoop.mk Nat (fun i => [(2, .ptr 0 0), (3, .ptr 1 0), (6, iv i)]) (fun i => [.cells (vcells v) 33, .cells (vcells w) 33]) (fun i => i ≤ 7 ∧ ∀ j, j < i → v j ≤ w j) (fun i => 7 - i) 0 [0, 1]
    ⟨⟨by omega, fun j hj => by omega⟩, rfl, rfl, rfl⟩ ?_
  rintro i ⟨hi, hd⟩ g
  refine And.intro (fun h => ?_) (fun h => ?_)
  · have h := of_decide_eq_true h
    have hi7 : 0 ≤ (i : Int) ∧ (i : Int) < 7 := ⟨by omega, h⟩
    have hw : IntKind.i64.wrap ((i : Int) + 1) = ((i + 1 : Nat) : Int) := wrap64 (by omega)
    refine And.intro hi7 (Exists.intro _ (And.intro (vcells_get' v hi7 []) ?_))
    refine And.intro hi7 (Exists.intro _ (And.intro (vcells_get' w hi7 []) ?_))
    refine And.intro (fun h2 => ?_) (fun h2 => ?_)
    · have h2 := of_decide_eq_true h2
      refine VRet.mk [] (bv false) [] ⟨rfl, rfl, rfl⟩ ⟨?_, rfl⟩
      have : leB v w = false := by
        rw [Bool.eq_false_iff, Ne, leB_iff]
        intro hh
        have := hh i (by omega)
        rw [Int.toNat_natCast] at h2
        omega
      rw [this]
    · have h2 := of_decide_eq_false h2
      refine Exists.intro _ (And.intro hw ?_)
      refine Exists.intro (i + 1) (Exists.intro [0, 1] (And.intro ⟨⟨by omega, fun j hj => ?_⟩, by omega⟩ ⟨rfl, rfl, rfl⟩))
      rw [Int.toNat_natCast] at h2
      by_cases e : j = i
      · subst e; omega
      · exact hd j (by omega)
  · have h := of_decide_eq_false h
    have h7 : i = 7 := by omega
    subst h7
    refine VRet.mk [] (bv true) [] ⟨rfl, rfl, rfl⟩ ⟨?_, rfl⟩
    rw [leB_iff.2 hd]



set_option maxHeartbeats 16000000 in
theorem s_InstPromise (h : Nat → Option Obj) (v : Value) (L : List MA) (hv : MsgsIs h v L) :
    Ctr Try.prog F_rostrumlaw20_InstPromise [.raw v] [.heap h] (fun x H => x = bv true ∧ ∃ h', H = [.heap h'] ∧ Sub h h') := by
  obtain ⟨la, lc, rfl⟩ := hv.shape
  refine i_rostrumlaw20_InstPromise.spec follows ?_
  refine VCall.mk [0] (s_awake h) ⟨rfl, rfl, rfl⟩ ?_
  rintro _ _ ⟨rfl, h0, rfl, hs0⟩
  refine And.intro (fun h => absurd h (by simp)) (fun _ => ?_)
  refine VCall.mk [0] (s_light h0 _ L (hv.mono hs0)) ⟨rfl, rfl, rfl⟩ ?_
  rintro _ _ ⟨rfl, rfl⟩
  refine And.intro (fun hl => ?_) (fun hl => ?_)
  · exact VRet.mk [0] (bv true) [.heap h0] ⟨rfl, rfl, rfl⟩ ⟨rfl, h0, rfl, hs0⟩
  have hlight : lightB L = true := by simpa using hl
  have hL : L.length ≤ 40 := by
    simp only [lightB, Bool.and_eq_true, decide_eq_true_eq] at hlight
    exact hlight.1
  refine VCall.mk [] s_New ⟨rfl, rfl, rfl⟩ ?_
  rintro _ _ ⟨rfl, rfl⟩
  refine VLoop.mk HX (fun x => [(0, .raw (.slice la L.length lc)), (3, .ptr 1 0), (4, iv x.i)]) (fun x => [.heap x.h, tbl 2, rmap x.ms x.c])
    (fun x => x.i ≤ L.length ∧ Tab x.h x.ms x.c x.T (1099511627776 + x.i) ∧ Sub h x.h ∧ x.ms.length ≤ x.i ∧ AtOK x.T) (fun x => L.length - x.i) ⟨0, [], 0, fun _ => zeroA, h0⟩ [0, 1, 2]
    ⟨⟨Nat.zero_le _, Tab.nil _ (by show (0 : Int) ≤ 1099511627776 + ((0 : Nat) : Int); decide), hs0, Nat.le_refl _, AtOK.zero⟩, rfl, rfl, rfl⟩ ?_
  rintro ⟨i, ms, c, T, h1⟩ ⟨hi, ht, hs, hml, hat⟩ g
  simp only at hi ht hs hml hat
  refine And.intro (fun h2 => ?_) (fun h2 => ?_)
  rotate_left 1
  · exact VRet.mk [0] (bv true) [.heap h1] ⟨rfl, rfl, rfl⟩ ⟨rfl, h1, rfl, hs⟩
  have h2 := of_decide_eq_true h2
  have hil : i < L.length := by simp only at h2; omega
  have hw : IntKind.i64.wrap ((i : Int) + 1) = ((i + 1 : Nat) : Int) := wrap64 (by omega)
  obtain ⟨bb, o, xs, e, fr, m, rfl, hh, hc, hm⟩ := (hv.mono hs).at hil
  have hn : (0 : Int) ≤ (i : Int) ∧ (i : Int) < (L.length : Nat) := ⟨Int.natCast_nonneg i, by omega⟩
  generalize hM : L[i] = M at hm
  obtain ⟨ma, mc, hmc⟩ := hm.cmd.shape
  have hm0 := hm
  obtain ⟨mk, md, mb, mcmd, mseq, mdeps⟩ := m
  obtain ⟨e1, e2, e3, e4, e5, e6⟩ := hm
  simp only at e1 e2 e3 e4 e5 e6 hmc
  subst hmc
  refine And.intro hn ?_
  refine Exists.intro 0 (Exists.intro xs (Exists.intro e (Exists.intro fr (And.intro hh (Exists.intro _ (And.intro (by rw [Int.toNat_natCast]; exact hc) ?_))))))
  refine VCall.mk [] (s_inst_May ⟨mk, md, mb, .slice ma M.cmd.length mc, mseq, mdeps⟩ ma M.cmd.length mc rfl) ⟨rfl, rfl, rfl⟩ ?_
  rintro _ _ ⟨rfl, rfl⟩
  have hmay : mayB ⟨mk, md, mb, .slice ma M.cmd.length mc, mseq, mdeps⟩ M.cmd.length = mayA M := by
    subst e1 e2 e3 e5 e6; rfl
  rw [hmay]
  refine And.intro (fun h3 => ?_) (fun h3 => ?_)
  · refine Exists.intro _ (And.intro hw ?_)
    exact Exists.intro ⟨i + 1, ms, c, T, h1⟩ (Exists.intro [0, 1, 2] (And.intro ⟨⟨hil, ht.up (by simp only; omega), hs, by simp only; omega, hat⟩, by simp only; omega⟩ ⟨rfl, rfl, rfl⟩))
  have h3 : mayA M = true := by simpa using h3
  refine VCall.mk [1, 2, 0] (s_Rec h1 ms c T _ ht md) ⟨rfl, rfl, rfl⟩ ?_
  rintro _ _ ⟨w, h4, rfl, hrw, rfl, hs1⟩
  obtain ⟨wa, wc, hwc⟩ := hrw.cmd.shape
  have hrw0 := hrw
  obtain ⟨wst, wcmd, wseq, wdeps, wb, waa⟩ := w
  simp only at hwc
  subst hwc
  refine VCall.mk [1, 2, 0] (s_Do2 h4 ms c T _ (ht.mono hs1) (by omega) _ M (hm0.mono hs1)) ⟨rfl, rfl, rfl⟩ ?_
  rintro _ _ ⟨ok, er, b1, r1, R1, T1, ms1, c1, h5, rfl, rfl, hs2, ht1, hr1, hD1, hl1⟩
  obtain ⟨ra1, rc1, hrc1⟩ := hr1.cmd.shape
  obtain ⟨rst1, rcmd1, rseq1, rdeps1, rb1, raa1⟩ := r1
  simp only at hrc1
  subst hrc1
  refine VCall.mk [1, 2, 0] (s_Rec h5 ms1 c1 T1 _ ht1 md) ⟨rfl, rfl, rfl⟩ ?_
  rintro _ _ ⟨u, h6, rfl, hru, rfl, hs3⟩
  obtain ⟨ua, uc, huc⟩ := hru.cmd.shape
  have hru0 := hru
  obtain ⟨ust, ucmd, useq, udeps, ub, uaa⟩ := u
  simp only at huc
  subst huc
  have hrw6 := (hrw0.mono hs2).mono hs3
  obtain ⟨rfl, hat1, hK⟩ := hD1.kept h3 hat
  rw [← e2] at hK
  obtain ⟨f1, _, f3, f4, f5, f6⟩ := hrw
  obtain ⟨g1, _, g3, g4, g5, g6⟩ := hru
  simp only at f1 f3 f4 f5 f6 g1 g3 g4 g5 g6
  have hSame := s_Same h6 _ _ _ _ hrw6 hru0
  have hLe := s_vec_Le mdeps udeps
  have hCmp := s_ballot_Cmp mb wb
  have hhear : ok = true → mk = 1 → ¬ (wst = 1 ∧ waa = mb) → leB mdeps udeps = true := by
    intro k1 k2 k3
    rw [e1] at k2; rw [f1, f6, e3] at k3
    rw [leB_iff, e6, g4]
    exact (hK.hear k1 k2 k3).1
  have hhear2 : ok = true → mk = 1 → ¬ (wst = 1 ∧ waa = mb) → ¬ useq < mseq := by
    intro k1 k2 k3
    rw [e1] at k2; rw [f1, f6, e3] at k3
    rw [e5, g3]
    exact (hK.hear k1 k2 k3).2
  refine And.intro (fun _ => ?_) (fun h => absurd h (by simp))
  refine VCall.mk [] (s_ballot_Cmp ub wb) ⟨rfl, rfl, rfl⟩ ?_
  rintro _ _ ⟨rfl, rfl⟩
  have hup : ¬ cmpD ub wb < 0 := by rw [g5, f5]; exact hK.up
  refine And.intro (fun _ => ?_) (fun h => absurd (of_decide_eq_true (by simpa using h)) hup)
  refine And.intro (fun ha => ?_) (fun ha => ?_)
  · refine VCall.mk [0] hSame ⟨rfl, rfl, rfl⟩ ?_
    rintro _ _ ⟨rfl, rfl⟩
    have ha := hK.com (f1.symm.trans (of_decide_eq_true ha))
    refine And.intro (fun _ => ?_) (fun h => absurd h (by rw [ha]; simp))
    refine And.intro (fun hb => ?_) (fun hb => ?_)
    · have hok : ok = false := by simpa using hb
      refine VCall.mk [0] hSame ⟨rfl, rfl, rfl⟩ ?_
      rintro _ _ ⟨rfl, rfl⟩
      have hb2 := hK.no hok
      refine And.intro (fun h => absurd h (by rw [hb2]; simp)) (fun _ => ?_)
      refine And.intro (fun h => absurd hok (by rw [h]; simp)) (fun _ => ?_)
      refine And.intro (fun hc => ?_) (fun hc => ?_)
      · have hc := hK.acc (f1.symm.trans (of_decide_eq_true hc))
        rw [← g1] at hc
        refine And.intro (fun h => absurd (of_decide_eq_true h) hc) (fun _ => ?_)
        refine And.intro (fun _ => ?_) (fun _ => ?_)
        · refine And.intro (fun h => absurd hok (by rw [h]; simp)) (fun _ => ?_)
          refine Exists.intro _ (And.intro hw ?_)
          exact Exists.intro ⟨i + 1, ms1, c1, T1, h6⟩ (Exists.intro [0, 1, 2] (And.intro ⟨⟨hil, ht1.mono hs3, ((hs.trans hs1).trans hs2).trans hs3, by simp only; omega, hat1⟩, by simp only; omega⟩ ⟨rfl, rfl, rfl⟩))
        · refine And.intro (fun h => absurd hok (by rw [h]; simp)) (fun _ => ?_)
          refine Exists.intro _ (And.intro hw ?_)
          exact Exists.intro ⟨i + 1, ms1, c1, T1, h6⟩ (Exists.intro [0, 1, 2] (And.intro ⟨⟨hil, ht1.mono hs3, ((hs.trans hs1).trans hs2).trans hs3, by simp only; omega, hat1⟩, by simp only; omega⟩ ⟨rfl, rfl, rfl⟩))
      · refine And.intro (fun _ => ?_) (fun _ => ?_)
        · refine And.intro (fun h => absurd hok (by rw [h]; simp)) (fun _ => ?_)
          refine Exists.intro _ (And.intro hw ?_)
          exact Exists.intro ⟨i + 1, ms1, c1, T1, h6⟩ (Exists.intro [0, 1, 2] (And.intro ⟨⟨hil, ht1.mono hs3, ((hs.trans hs1).trans hs2).trans hs3, by simp only; omega, hat1⟩, by simp only; omega⟩ ⟨rfl, rfl, rfl⟩))
        · refine And.intro (fun h => absurd hok (by rw [h]; simp)) (fun _ => ?_)
          refine Exists.intro _ (And.intro hw ?_)
          exact Exists.intro ⟨i + 1, ms1, c1, T1, h6⟩ (Exists.intro [0, 1, 2] (And.intro ⟨⟨hil, ht1.mono hs3, ((hs.trans hs1).trans hs2).trans hs3, by simp only; omega, hat1⟩, by simp only; omega⟩ ⟨rfl, rfl, rfl⟩))
    · have hok : ok = true := by simpa using hb
      refine And.intro (fun _ => ?_) (fun h => absurd hok (by rw [h]; simp))
      refine And.intro (fun hk => ?_) (fun hk => ?_)
      · obtain ⟨hk1, hk2⟩ := hK.yes hok (by rw [← e1]; simpa using hk)
        rw [← e3, ← f5] at hk1
        rw [← g5, ← e3] at hk2
        have hk3 : eqB ub mb = true := eqB_iff.2 hk2
        refine VCall.mk [] hCmp ⟨rfl, rfl, rfl⟩ ?_
        rintro _ _ ⟨rfl, rfl⟩
        refine And.intro (fun _ => ?_) (fun h => absurd (of_decide_eq_true h) hk1)
        refine And.intro (fun _ => ?_) (fun h => absurd (show (!eqB ub mb) = true from h) (by rw [hk3]; simp))
        refine And.intro (fun hc => ?_) (fun hc => ?_)
        · have hc := hK.acc (f1.symm.trans (of_decide_eq_true hc))
          rw [← g1] at hc
          refine And.intro (fun h => absurd (of_decide_eq_true h) hc) (fun _ => ?_)
          refine And.intro (fun _ => ?_) (fun hd => ?_)
          · refine And.intro (fun _ => ?_) (fun h => absurd hok (by rw [h]; simp))
            refine And.intro (fun he => ?_) (fun _ => ?_)
            · have he := of_decide_eq_true he
              refine And.intro (fun hf => ?_) (fun _ => ?_)
              · have hf : (!eqB waa mb) = true := hf
                have hag : ¬ (wst = 1 ∧ waa = mb) := fun ⟨_, h⟩ => by rw [eqB_iff.2 h] at hf; cases hf
                have hle : leB mdeps udeps = true := hhear hok he hag
                have hsq : ¬ useq < mseq := hhear2 hok he hag
                refine VCall.mk [] hLe ⟨rfl, rfl, rfl⟩ ?_
                rintro _ _ ⟨rfl, rfl⟩
                refine And.intro (fun _ => ?_) (fun h => absurd hle (by simpa using h))
                refine And.intro (fun h => absurd (of_decide_eq_true h) hsq) (fun _ => ?_)
                refine Exists.intro _ (And.intro hw ?_)
                exact Exists.intro ⟨i + 1, ms1, c1, T1, h6⟩ (Exists.intro [0, 1, 2] (And.intro ⟨⟨hil, ht1.mono hs3, ((hs.trans hs1).trans hs2).trans hs3, by simp only; omega, hat1⟩, by simp only; omega⟩ ⟨rfl, rfl, rfl⟩))
              · refine Exists.intro _ (And.intro hw ?_)
                exact Exists.intro ⟨i + 1, ms1, c1, T1, h6⟩ (Exists.intro [0, 1, 2] (And.intro ⟨⟨hil, ht1.mono hs3, ((hs.trans hs1).trans hs2).trans hs3, by simp only; omega, hat1⟩, by simp only; omega⟩ ⟨rfl, rfl, rfl⟩))
            · refine Exists.intro _ (And.intro hw ?_)
              exact Exists.intro ⟨i + 1, ms1, c1, T1, h6⟩ (Exists.intro [0, 1, 2] (And.intro ⟨⟨hil, ht1.mono hs3, ((hs.trans hs1).trans hs2).trans hs3, by simp only; omega, hat1⟩, by simp only; omega⟩ ⟨rfl, rfl, rfl⟩))
          · have hd := of_decide_eq_false hd
            refine And.intro (fun _ => ?_) (fun h => absurd hok (by rw [h]; simp))
            refine And.intro (fun he => ?_) (fun _ => ?_)
            · have he := of_decide_eq_true he
              have hag : ¬ (wst = 1 ∧ waa = mb) := fun ⟨h, _⟩ => hd h
              have hle : leB mdeps udeps = true := hhear hok he hag
              have hsq : ¬ useq < mseq := hhear2 hok he hag
              refine VCall.mk [] hLe ⟨rfl, rfl, rfl⟩ ?_
              rintro _ _ ⟨rfl, rfl⟩
              refine And.intro (fun _ => ?_) (fun h => absurd hle (by simpa using h))
              refine And.intro (fun h => absurd (of_decide_eq_true h) hsq) (fun _ => ?_)
              refine Exists.intro _ (And.intro hw ?_)
              exact Exists.intro ⟨i + 1, ms1, c1, T1, h6⟩ (Exists.intro [0, 1, 2] (And.intro ⟨⟨hil, ht1.mono hs3, ((hs.trans hs1).trans hs2).trans hs3, by simp only; omega, hat1⟩, by simp only; omega⟩ ⟨rfl, rfl, rfl⟩))
            · refine Exists.intro _ (And.intro hw ?_)
              exact Exists.intro ⟨i + 1, ms1, c1, T1, h6⟩ (Exists.intro [0, 1, 2] (And.intro ⟨⟨hil, ht1.mono hs3, ((hs.trans hs1).trans hs2).trans hs3, by simp only; omega, hat1⟩, by simp only; omega⟩ ⟨rfl, rfl, rfl⟩))
        · refine And.intro (fun _ => ?_) (fun hd => ?_)
          · refine And.intro (fun _ => ?_) (fun h => absurd hok (by rw [h]; simp))
            refine And.intro (fun he => ?_) (fun _ => ?_)
            · have he := of_decide_eq_true he
              refine And.intro (fun hf => ?_) (fun _ => ?_)
              · have hf : (!eqB waa mb) = true := hf
                have hag : ¬ (wst = 1 ∧ waa = mb) := fun ⟨_, h⟩ => by rw [eqB_iff.2 h] at hf; cases hf
                have hle : leB mdeps udeps = true := hhear hok he hag
                have hsq : ¬ useq < mseq := hhear2 hok he hag
                refine VCall.mk [] hLe ⟨rfl, rfl, rfl⟩ ?_
                rintro _ _ ⟨rfl, rfl⟩
                refine And.intro (fun _ => ?_) (fun h => absurd hle (by simpa using h))
                refine And.intro (fun h => absurd (of_decide_eq_true h) hsq) (fun _ => ?_)
                refine Exists.intro _ (And.intro hw ?_)
                exact Exists.intro ⟨i + 1, ms1, c1, T1, h6⟩ (Exists.intro [0, 1, 2] (And.intro ⟨⟨hil, ht1.mono hs3, ((hs.trans hs1).trans hs2).trans hs3, by simp only; omega, hat1⟩, by simp only; omega⟩ ⟨rfl, rfl, rfl⟩))
              · refine Exists.intro _ (And.intro hw ?_)
                exact Exists.intro ⟨i + 1, ms1, c1, T1, h6⟩ (Exists.intro [0, 1, 2] (And.intro ⟨⟨hil, ht1.mono hs3, ((hs.trans hs1).trans hs2).trans hs3, by simp only; omega, hat1⟩, by simp only; omega⟩ ⟨rfl, rfl, rfl⟩))
            · refine Exists.intro _ (And.intro hw ?_)
              exact Exists.intro ⟨i + 1, ms1, c1, T1, h6⟩ (Exists.intro [0, 1, 2] (And.intro ⟨⟨hil, ht1.mono hs3, ((hs.trans hs1).trans hs2).trans hs3, by simp only; omega, hat1⟩, by simp only; omega⟩ ⟨rfl, rfl, rfl⟩))
          · have hd := of_decide_eq_false hd
            refine And.intro (fun _ => ?_) (fun h => absurd hok (by rw [h]; simp))
            refine And.intro (fun he => ?_) (fun _ => ?_)
            · have he := of_decide_eq_true he
              have hag : ¬ (wst = 1 ∧ waa = mb) := fun ⟨h, _⟩ => hd h
              have hle : leB mdeps udeps = true := hhear hok he hag
              have hsq : ¬ useq < mseq := hhear2 hok he hag
              refine VCall.mk [] hLe ⟨rfl, rfl, rfl⟩ ?_
              rintro _ _ ⟨rfl, rfl⟩
              refine And.intro (fun _ => ?_) (fun h => absurd hle (by simpa using h))
              refine And.intro (fun h => absurd (of_decide_eq_true h) hsq) (fun _ => ?_)
              refine Exists.intro _ (And.intro hw ?_)
              exact Exists.intro ⟨i + 1, ms1, c1, T1, h6⟩ (Exists.intro [0, 1, 2] (And.intro ⟨⟨hil, ht1.mono hs3, ((hs.trans hs1).trans hs2).trans hs3, by simp only; omega, hat1⟩, by simp only; omega⟩ ⟨rfl, rfl, rfl⟩))
            · refine Exists.intro _ (And.intro hw ?_)
              exact Exists.intro ⟨i + 1, ms1, c1, T1, h6⟩ (Exists.intro [0, 1, 2] (And.intro ⟨⟨hil, ht1.mono hs3, ((hs.trans hs1).trans hs2).trans hs3, by simp only; omega, hat1⟩, by simp only; omega⟩ ⟨rfl, rfl, rfl⟩))
      · refine And.intro (fun hc => ?_) (fun hc => ?_)
        · have hc := hK.acc (f1.symm.trans (of_decide_eq_true hc))
          rw [← g1] at hc
          refine And.intro (fun h => absurd (of_decide_eq_true h) hc) (fun _ => ?_)
          refine And.intro (fun _ => ?_) (fun hd => ?_)
          · refine And.intro (fun _ => ?_) (fun h => absurd hok (by rw [h]; simp))
            refine And.intro (fun he => ?_) (fun _ => ?_)
            · have he := of_decide_eq_true he
              refine And.intro (fun hf => ?_) (fun _ => ?_)
              · have hf : (!eqB waa mb) = true := hf
                have hag : ¬ (wst = 1 ∧ waa = mb) := fun ⟨_, h⟩ => by rw [eqB_iff.2 h] at hf; cases hf
                have hle : leB mdeps udeps = true := hhear hok he hag
                have hsq : ¬ useq < mseq := hhear2 hok he hag
                refine VCall.mk [] hLe ⟨rfl, rfl, rfl⟩ ?_
                rintro _ _ ⟨rfl, rfl⟩
                refine And.intro (fun _ => ?_) (fun h => absurd hle (by simpa using h))
                refine And.intro (fun h => absurd (of_decide_eq_true h) hsq) (fun _ => ?_)
                refine Exists.intro _ (And.intro hw ?_)
                exact Exists.intro ⟨i + 1, ms1, c1, T1, h6⟩ (Exists.intro [0, 1, 2] (And.intro ⟨⟨hil, ht1.mono hs3, ((hs.trans hs1).trans hs2).trans hs3, by simp only; omega, hat1⟩, by simp only; omega⟩ ⟨rfl, rfl, rfl⟩))
              · refine Exists.intro _ (And.intro hw ?_)
                exact Exists.intro ⟨i + 1, ms1, c1, T1, h6⟩ (Exists.intro [0, 1, 2] (And.intro ⟨⟨hil, ht1.mono hs3, ((hs.trans hs1).trans hs2).trans hs3, by simp only; omega, hat1⟩, by simp only; omega⟩ ⟨rfl, rfl, rfl⟩))
            · refine Exists.intro _ (And.intro hw ?_)
              exact Exists.intro ⟨i + 1, ms1, c1, T1, h6⟩ (Exists.intro [0, 1, 2] (And.intro ⟨⟨hil, ht1.mono hs3, ((hs.trans hs1).trans hs2).trans hs3, by simp only; omega, hat1⟩, by simp only; omega⟩ ⟨rfl, rfl, rfl⟩))
          · have hd := of_decide_eq_false hd
            refine And.intro (fun _ => ?_) (fun h => absurd hok (by rw [h]; simp))
            refine And.intro (fun he => ?_) (fun _ => ?_)
            · have he := of_decide_eq_true he
              have hag : ¬ (wst = 1 ∧ waa = mb) := fun ⟨h, _⟩ => hd h
              have hle : leB mdeps udeps = true := hhear hok he hag
              have hsq : ¬ useq < mseq := hhear2 hok he hag
              refine VCall.mk [] hLe ⟨rfl, rfl, rfl⟩ ?_
              rintro _ _ ⟨rfl, rfl⟩
              refine And.intro (fun _ => ?_) (fun h => absurd hle (by simpa using h))
              refine And.intro (fun h => absurd (of_decide_eq_true h) hsq) (fun _ => ?_)
              refine Exists.intro _ (And.intro hw ?_)
              exact Exists.intro ⟨i + 1, ms1, c1, T1, h6⟩ (Exists.intro [0, 1, 2] (And.intro ⟨⟨hil, ht1.mono hs3, ((hs.trans hs1).trans hs2).trans hs3, by simp only; omega, hat1⟩, by simp only; omega⟩ ⟨rfl, rfl, rfl⟩))
            · refine Exists.intro _ (And.intro hw ?_)
              exact Exists.intro ⟨i + 1, ms1, c1, T1, h6⟩ (Exists.intro [0, 1, 2] (And.intro ⟨⟨hil, ht1.mono hs3, ((hs.trans hs1).trans hs2).trans hs3, by simp only; omega, hat1⟩, by simp only; omega⟩ ⟨rfl, rfl, rfl⟩))
        · refine And.intro (fun _ => ?_) (fun hd => ?_)
          · refine And.intro (fun _ => ?_) (fun h => absurd hok (by rw [h]; simp))
            refine And.intro (fun he => ?_) (fun _ => ?_)
            · have he := of_decide_eq_true he
              refine And.intro (fun hf => ?_) (fun _ => ?_)
              · have hf : (!eqB waa mb) = true := hf
                have hag : ¬ (wst = 1 ∧ waa = mb) := fun ⟨_, h⟩ => by rw [eqB_iff.2 h] at hf; cases hf
                have hle : leB mdeps udeps = true := hhear hok he hag
                have hsq : ¬ useq < mseq := hhear2 hok he hag
                refine VCall.mk [] hLe ⟨rfl, rfl, rfl⟩ ?_
                rintro _ _ ⟨rfl, rfl⟩
                refine And.intro (fun _ => ?_) (fun h => absurd hle (by simpa using h))
                refine And.intro (fun h => absurd (of_decide_eq_true h) hsq) (fun _ => ?_)
                refine Exists.intro _ (And.intro hw ?_)
                exact Exists.intro ⟨i + 1, ms1, c1, T1, h6⟩ (Exists.intro [0, 1, 2] (And.intro ⟨⟨hil, ht1.mono hs3, ((hs.trans hs1).trans hs2).trans hs3, by simp only; omega, hat1⟩, by simp only; omega⟩ ⟨rfl, rfl, rfl⟩))
              · refine Exists.intro _ (And.intro hw ?_)
                exact Exists.intro ⟨i + 1, ms1, c1, T1, h6⟩ (Exists.intro [0, 1, 2] (And.intro ⟨⟨hil, ht1.mono hs3, ((hs.trans hs1).trans hs2).trans hs3, by simp only; omega, hat1⟩, by simp only; omega⟩ ⟨rfl, rfl, rfl⟩))
            · refine Exists.intro _ (And.intro hw ?_)
              exact Exists.intro ⟨i + 1, ms1, c1, T1, h6⟩ (Exists.intro [0, 1, 2] (And.intro ⟨⟨hil, ht1.mono hs3, ((hs.trans hs1).trans hs2).trans hs3, by simp only; omega, hat1⟩, by simp only; omega⟩ ⟨rfl, rfl, rfl⟩))
          · have hd := of_decide_eq_false hd
            refine And.intro (fun _ => ?_) (fun h => absurd hok (by rw [h]; simp))
            refine And.intro (fun he => ?_) (fun _ => ?_)
            · have he := of_decide_eq_true he
              have hag : ¬ (wst = 1 ∧ waa = mb) := fun ⟨h, _⟩ => hd h
              have hle : leB mdeps udeps = true := hhear hok he hag
              have hsq : ¬ useq < mseq := hhear2 hok he hag
              refine VCall.mk [] hLe ⟨rfl, rfl, rfl⟩ ?_
              rintro _ _ ⟨rfl, rfl⟩
              refine And.intro (fun _ => ?_) (fun h => absurd hle (by simpa using h))
              refine And.intro (fun h => absurd (of_decide_eq_true h) hsq) (fun _ => ?_)
              refine Exists.intro _ (And.intro hw ?_)
              exact Exists.intro ⟨i + 1, ms1, c1, T1, h6⟩ (Exists.intro [0, 1, 2] (And.intro ⟨⟨hil, ht1.mono hs3, ((hs.trans hs1).trans hs2).trans hs3, by simp only; omega, hat1⟩, by simp only; omega⟩ ⟨rfl, rfl, rfl⟩))
            · refine Exists.intro _ (And.intro hw ?_)
              exact Exists.intro ⟨i + 1, ms1, c1, T1, h6⟩ (Exists.intro [0, 1, 2] (And.intro ⟨⟨hil, ht1.mono hs3, ((hs.trans hs1).trans hs2).trans hs3, by simp only; omega, hat1⟩, by simp only; omega⟩ ⟨rfl, rfl, rfl⟩))
  · refine And.intro (fun hb => ?_) (fun hb => ?_)
    · have hok : ok = false := by simpa using hb
      refine VCall.mk [0] hSame ⟨rfl, rfl, rfl⟩ ?_
      rintro _ _ ⟨rfl, rfl⟩
      have hb2 := hK.no hok
      refine And.intro (fun h => absurd h (by rw [hb2]; simp)) (fun _ => ?_)
      refine And.intro (fun h => absurd hok (by rw [h]; simp)) (fun _ => ?_)
      refine And.intro (fun hc => ?_) (fun hc => ?_)
      · have hc := hK.acc (f1.symm.trans (of_decide_eq_true hc))
        rw [← g1] at hc
        refine And.intro (fun h => absurd (of_decide_eq_true h) hc) (fun _ => ?_)
        refine And.intro (fun _ => ?_) (fun _ => ?_)
        · refine And.intro (fun h => absurd hok (by rw [h]; simp)) (fun _ => ?_)
          refine Exists.intro _ (And.intro hw ?_)
          exact Exists.intro ⟨i + 1, ms1, c1, T1, h6⟩ (Exists.intro [0, 1, 2] (And.intro ⟨⟨hil, ht1.mono hs3, ((hs.trans hs1).trans hs2).trans hs3, by simp only; omega, hat1⟩, by simp only; omega⟩ ⟨rfl, rfl, rfl⟩))
        · refine And.intro (fun h => absurd hok (by rw [h]; simp)) (fun _ => ?_)
          refine Exists.intro _ (And.intro hw ?_)
          exact Exists.intro ⟨i + 1, ms1, c1, T1, h6⟩ (Exists.intro [0, 1, 2] (And.intro ⟨⟨hil, ht1.mono hs3, ((hs.trans hs1).trans hs2).trans hs3, by simp only; omega, hat1⟩, by simp only; omega⟩ ⟨rfl, rfl, rfl⟩))
      · refine And.intro (fun _ => ?_) (fun _ => ?_)
        · refine And.intro (fun h => absurd hok (by rw [h]; simp)) (fun _ => ?_)
          refine Exists.intro _ (And.intro hw ?_)
          exact Exists.intro ⟨i + 1, ms1, c1, T1, h6⟩ (Exists.intro [0, 1, 2] (And.intro ⟨⟨hil, ht1.mono hs3, ((hs.trans hs1).trans hs2).trans hs3, by simp only; omega, hat1⟩, by simp only; omega⟩ ⟨rfl, rfl, rfl⟩))
        · refine And.intro (fun h => absurd hok (by rw [h]; simp)) (fun _ => ?_)
          refine Exists.intro _ (And.intro hw ?_)
          exact Exists.intro ⟨i + 1, ms1, c1, T1, h6⟩ (Exists.intro [0, 1, 2] (And.intro ⟨⟨hil, ht1.mono hs3, ((hs.trans hs1).trans hs2).trans hs3, by simp only; omega, hat1⟩, by simp only; omega⟩ ⟨rfl, rfl, rfl⟩))
    · have hok : ok = true := by simpa using hb
      refine And.intro (fun _ => ?_) (fun h => absurd hok (by rw [h]; simp))
      refine And.intro (fun hk => ?_) (fun hk => ?_)
      · obtain ⟨hk1, hk2⟩ := hK.yes hok (by rw [← e1]; simpa using hk)
        rw [← e3, ← f5] at hk1
        rw [← g5, ← e3] at hk2
        have hk3 : eqB ub mb = true := eqB_iff.2 hk2
        refine VCall.mk [] hCmp ⟨rfl, rfl, rfl⟩ ?_
        rintro _ _ ⟨rfl, rfl⟩
        refine And.intro (fun _ => ?_) (fun h => absurd (of_decide_eq_true h) hk1)
        refine And.intro (fun _ => ?_) (fun h => absurd (show (!eqB ub mb) = true from h) (by rw [hk3]; simp))
        refine And.intro (fun hc => ?_) (fun hc => ?_)
        · have hc := hK.acc (f1.symm.trans (of_decide_eq_true hc))
          rw [← g1] at hc
          refine And.intro (fun h => absurd (of_decide_eq_true h) hc) (fun _ => ?_)
          refine And.intro (fun _ => ?_) (fun hd => ?_)
          · refine And.intro (fun _ => ?_) (fun h => absurd hok (by rw [h]; simp))
            refine And.intro (fun he => ?_) (fun _ => ?_)
            · have he := of_decide_eq_true he
              refine And.intro (fun hf => ?_) (fun _ => ?_)
              · have hf : (!eqB waa mb) = true := hf
                have hag : ¬ (wst = 1 ∧ waa = mb) := fun ⟨_, h⟩ => by rw [eqB_iff.2 h] at hf; cases hf
                have hle : leB mdeps udeps = true := hhear hok he hag
                have hsq : ¬ useq < mseq := hhear2 hok he hag
                refine VCall.mk [] hLe ⟨rfl, rfl, rfl⟩ ?_
                rintro _ _ ⟨rfl, rfl⟩
                refine And.intro (fun _ => ?_) (fun h => absurd hle (by simpa using h))
                refine And.intro (fun h => absurd (of_decide_eq_true h) hsq) (fun _ => ?_)
                refine Exists.intro _ (And.intro hw ?_)
                exact Exists.intro ⟨i + 1, ms1, c1, T1, h6⟩ (Exists.intro [0, 1, 2] (And.intro ⟨⟨hil, ht1.mono hs3, ((hs.trans hs1).trans hs2).trans hs3, by simp only; omega, hat1⟩, by simp only; omega⟩ ⟨rfl, rfl, rfl⟩))
              · refine Exists.intro _ (And.intro hw ?_)
                exact Exists.intro ⟨i + 1, ms1, c1, T1, h6⟩ (Exists.intro [0, 1, 2] (And.intro ⟨⟨hil, ht1.mono hs3, ((hs.trans hs1).trans hs2).trans hs3, by simp only; omega, hat1⟩, by simp only; omega⟩ ⟨rfl, rfl, rfl⟩))
            · refine Exists.intro _ (And.intro hw ?_)
              exact Exists.intro ⟨i + 1, ms1, c1, T1, h6⟩ (Exists.intro [0, 1, 2] (And.intro ⟨⟨hil, ht1.mono hs3, ((hs.trans hs1).trans hs2).trans hs3, by simp only; omega, hat1⟩, by simp only; omega⟩ ⟨rfl, rfl, rfl⟩))
          · have hd := of_decide_eq_false hd
            refine And.intro (fun _ => ?_) (fun h => absurd hok (by rw [h]; simp))
            refine And.intro (fun he => ?_) (fun _ => ?_)
            · have he := of_decide_eq_true he
              have hag : ¬ (wst = 1 ∧ waa = mb) := fun ⟨h, _⟩ => hd h
              have hle : leB mdeps udeps = true := hhear hok he hag
              have hsq : ¬ useq < mseq := hhear2 hok he hag
              refine VCall.mk [] hLe ⟨rfl, rfl, rfl⟩ ?_
              rintro _ _ ⟨rfl, rfl⟩
              refine And.intro (fun _ => ?_) (fun h => absurd hle (by simpa using h))
              refine And.intro (fun h => absurd (of_decide_eq_true h) hsq) (fun _ => ?_)
              refine Exists.intro _ (And.intro hw ?_)
              exact Exists.intro ⟨i + 1, ms1, c1, T1, h6⟩ (Exists.intro [0, 1, 2] (And.intro ⟨⟨hil, ht1.mono hs3, ((hs.trans hs1).trans hs2).trans hs3, by simp only; omega, hat1⟩, by simp only; omega⟩ ⟨rfl, rfl, rfl⟩))
            · refine Exists.intro _ (And.intro hw ?_)
              exact Exists.intro ⟨i + 1, ms1, c1, T1, h6⟩ (Exists.intro [0, 1, 2] (And.intro ⟨⟨hil, ht1.mono hs3, ((hs.trans hs1).trans hs2).trans hs3, by simp only; omega, hat1⟩, by simp only; omega⟩ ⟨rfl, rfl, rfl⟩))
        · refine And.intro (fun _ => ?_) (fun hd => ?_)
          · refine And.intro (fun _ => ?_) (fun h => absurd hok (by rw [h]; simp))
            refine And.intro (fun he => ?_) (fun _ => ?_)
            · have he := of_decide_eq_true he
              refine And.intro (fun hf => ?_) (fun _ => ?_)
              · have hf : (!eqB waa mb) = true := hf
                have hag : ¬ (wst = 1 ∧ waa = mb) := fun ⟨_, h⟩ => by rw [eqB_iff.2 h] at hf; cases hf
                have hle : leB mdeps udeps = true := hhear hok he hag
                have hsq : ¬ useq < mseq := hhear2 hok he hag
                refine VCall.mk [] hLe ⟨rfl, rfl, rfl⟩ ?_
                rintro _ _ ⟨rfl, rfl⟩
                refine And.intro (fun _ => ?_) (fun h => absurd hle (by simpa using h))
                refine And.intro (fun h => absurd (of_decide_eq_true h) hsq) (fun _ => ?_)
                refine Exists.intro _ (And.intro hw ?_)
                exact Exists.intro ⟨i + 1, ms1, c1, T1, h6⟩ (Exists.intro [0, 1, 2] (And.intro ⟨⟨hil, ht1.mono hs3, ((hs.trans hs1).trans hs2).trans hs3, by simp only; omega, hat1⟩, by simp only; omega⟩ ⟨rfl, rfl, rfl⟩))
              · refine Exists.intro _ (And.intro hw ?_)
                exact Exists.intro ⟨i + 1, ms1, c1, T1, h6⟩ (Exists.intro [0, 1, 2] (And.intro ⟨⟨hil, ht1.mono hs3, ((hs.trans hs1).trans hs2).trans hs3, by simp only; omega, hat1⟩, by simp only; omega⟩ ⟨rfl, rfl, rfl⟩))
            · refine Exists.intro _ (And.intro hw ?_)
              exact Exists.intro ⟨i + 1, ms1, c1, T1, h6⟩ (Exists.intro [0, 1, 2] (And.intro ⟨⟨hil, ht1.mono hs3, ((hs.trans hs1).trans hs2).trans hs3, by simp only; omega, hat1⟩, by simp only; omega⟩ ⟨rfl, rfl, rfl⟩))
          · have hd := of_decide_eq_false hd
            refine And.intro (fun _ => ?_) (fun h => absurd hok (by rw [h]; simp))
            refine And.intro (fun he => ?_) (fun _ => ?_)
            · have he := of_decide_eq_true he
              have hag : ¬ (wst = 1 ∧ waa = mb) := fun ⟨h, _⟩ => hd h
              have hle : leB mdeps udeps = true := hhear hok he hag
              have hsq : ¬ useq < mseq := hhear2 hok he hag
              refine VCall.mk [] hLe ⟨rfl, rfl, rfl⟩ ?_
              rintro _ _ ⟨rfl, rfl⟩
              refine And.intro (fun _ => ?_) (fun h => absurd hle (by simpa using h))
              refine And.intro (fun h => absurd (of_decide_eq_true h) hsq) (fun _ => ?_)
              refine Exists.intro _ (And.intro hw ?_)
              exact Exists.intro ⟨i + 1, ms1, c1, T1, h6⟩ (Exists.intro [0, 1, 2] (And.intro ⟨⟨hil, ht1.mono hs3, ((hs.trans hs1).trans hs2).trans hs3, by simp only; omega, hat1⟩, by simp only; omega⟩ ⟨rfl, rfl, rfl⟩))
            · refine Exists.intro _ (And.intro hw ?_)
              exact Exists.intro ⟨i + 1, ms1, c1, T1, h6⟩ (Exists.intro [0, 1, 2] (And.intro ⟨⟨hil, ht1.mono hs3, ((hs.trans hs1).trans hs2).trans hs3, by simp only; omega, hat1⟩, by simp only; omega⟩ ⟨rfl, rfl, rfl⟩))
      · refine And.intro (fun hc => ?_) (fun hc => ?_)
        · have hc := hK.acc (f1.symm.trans (of_decide_eq_true hc))
          rw [← g1] at hc
          refine And.intro (fun h => absurd (of_decide_eq_true h) hc) (fun _ => ?_)
          refine And.intro (fun _ => ?_) (fun hd => ?_)
          · refine And.intro (fun _ => ?_) (fun h => absurd hok (by rw [h]; simp))
            refine And.intro (fun he => ?_) (fun _ => ?_)
            · have he := of_decide_eq_true he
              refine And.intro (fun hf => ?_) (fun _ => ?_)
              · have hf : (!eqB waa mb) = true := hf
                have hag : ¬ (wst = 1 ∧ waa = mb) := fun ⟨_, h⟩ => by rw [eqB_iff.2 h] at hf; cases hf
                have hle : leB mdeps udeps = true := hhear hok he hag
                have hsq : ¬ useq < mseq := hhear2 hok he hag
                refine VCall.mk [] hLe ⟨rfl, rfl, rfl⟩ ?_
                rintro _ _ ⟨rfl, rfl⟩
                refine And.intro (fun _ => ?_) (fun h => absurd hle (by simpa using h))
                refine And.intro (fun h => absurd (of_decide_eq_true h) hsq) (fun _ => ?_)
                refine Exists.intro _ (And.intro hw ?_)
                exact Exists.intro ⟨i + 1, ms1, c1, T1, h6⟩ (Exists.intro [0, 1, 2] (And.intro ⟨⟨hil, ht1.mono hs3, ((hs.trans hs1).trans hs2).trans hs3, by simp only; omega, hat1⟩, by simp only; omega⟩ ⟨rfl, rfl, rfl⟩))
              · refine Exists.intro _ (And.intro hw ?_)
                exact Exists.intro ⟨i + 1, ms1, c1, T1, h6⟩ (Exists.intro [0, 1, 2] (And.intro ⟨⟨hil, ht1.mono hs3, ((hs.trans hs1).trans hs2).trans hs3, by simp only; omega, hat1⟩, by simp only; omega⟩ ⟨rfl, rfl, rfl⟩))
            · refine Exists.intro _ (And.intro hw ?_)
              exact Exists.intro ⟨i + 1, ms1, c1, T1, h6⟩ (Exists.intro [0, 1, 2] (And.intro ⟨⟨hil, ht1.mono hs3, ((hs.trans hs1).trans hs2).trans hs3, by simp only; omega, hat1⟩, by simp only; omega⟩ ⟨rfl, rfl, rfl⟩))
          · have hd := of_decide_eq_false hd
            refine And.intro (fun _ => ?_) (fun h => absurd hok (by rw [h]; simp))
            refine And.intro (fun he => ?_) (fun _ => ?_)
            · have he := of_decide_eq_true he
              have hag : ¬ (wst = 1 ∧ waa = mb) := fun ⟨h, _⟩ => hd h
              have hle : leB mdeps udeps = true := hhear hok he hag
              have hsq : ¬ useq < mseq := hhear2 hok he hag
              refine VCall.mk [] hLe ⟨rfl, rfl, rfl⟩ ?_
              rintro _ _ ⟨rfl, rfl⟩
              refine And.intro (fun _ => ?_) (fun h => absurd hle (by simpa using h))
              refine And.intro (fun h => absurd (of_decide_eq_true h) hsq) (fun _ => ?_)
              refine Exists.intro _ (And.intro hw ?_)
              exact Exists.intro ⟨i + 1, ms1, c1, T1, h6⟩ (Exists.intro [0, 1, 2] (And.intro ⟨⟨hil, ht1.mono hs3, ((hs.trans hs1).trans hs2).trans hs3, by simp only; omega, hat1⟩, by simp only; omega⟩ ⟨rfl, rfl, rfl⟩))
            · refine Exists.intro _ (And.intro hw ?_)
              exact Exists.intro ⟨i + 1, ms1, c1, T1, h6⟩ (Exists.intro [0, 1, 2] (And.intro ⟨⟨hil, ht1.mono hs3, ((hs.trans hs1).trans hs2).trans hs3, by simp only; omega, hat1⟩, by simp only; omega⟩ ⟨rfl, rfl, rfl⟩))
        · refine And.intro (fun _ => ?_) (fun hd => ?_)
          · refine And.intro (fun _ => ?_) (fun h => absurd hok (by rw [h]; simp))
            refine And.intro (fun he => ?_) (fun _ => ?_)
            · have he := of_decide_eq_true he
              refine And.intro (fun hf => ?_) (fun _ => ?_)
              · have hf : (!eqB waa mb) = true := hf
                have hag : ¬ (wst = 1 ∧ waa = mb) := fun ⟨_, h⟩ => by rw [eqB_iff.2 h] at hf; cases hf
                have hle : leB mdeps udeps = true := hhear hok he hag
                have hsq : ¬ useq < mseq := hhear2 hok he hag
                refine VCall.mk [] hLe ⟨rfl, rfl, rfl⟩ ?_
                rintro _ _ ⟨rfl, rfl⟩
                refine And.intro (fun _ => ?_) (fun h => absurd hle (by simpa using h))
                refine And.intro (fun h => absurd (of_decide_eq_true h) hsq) (fun _ => ?_)
                refine Exists.intro _ (And.intro hw ?_)
                exact Exists.intro ⟨i + 1, ms1, c1, T1, h6⟩ (Exists.intro [0, 1, 2] (And.intro ⟨⟨hil, ht1.mono hs3, ((hs.trans hs1).trans hs2).trans hs3, by simp only; omega, hat1⟩, by simp only; omega⟩ ⟨rfl, rfl, rfl⟩))
              · refine Exists.intro _ (And.intro hw ?_)
                exact Exists.intro ⟨i + 1, ms1, c1, T1, h6⟩ (Exists.intro [0, 1, 2] (And.intro ⟨⟨hil, ht1.mono hs3, ((hs.trans hs1).trans hs2).trans hs3, by simp only; omega, hat1⟩, by simp only; omega⟩ ⟨rfl, rfl, rfl⟩))
            · refine Exists.intro _ (And.intro hw ?_)
              exact Exists.intro ⟨i + 1, ms1, c1, T1, h6⟩ (Exists.intro [0, 1, 2] (And.intro ⟨⟨hil, ht1.mono hs3, ((hs.trans hs1).trans hs2).trans hs3, by simp only; omega, hat1⟩, by simp only; omega⟩ ⟨rfl, rfl, rfl⟩))
          · have hd := of_decide_eq_false hd
            refine And.intro (fun _ => ?_) (fun h => absurd hok (by rw [h]; simp))
            refine And.intro (fun he => ?_) (fun _ => ?_)
            · have he := of_decide_eq_true he
              have hag : ¬ (wst = 1 ∧ waa = mb) := fun ⟨h, _⟩ => hd h
              have hle : leB mdeps udeps = true := hhear hok he hag
              have hsq : ¬ useq < mseq := hhear2 hok he hag
              refine VCall.mk [] hLe ⟨rfl, rfl, rfl⟩ ?_
              rintro _ _ ⟨rfl, rfl⟩
              refine And.intro (fun _ => ?_) (fun h => absurd hle (by simpa using h))
              refine And.intro (fun h => absurd (of_decide_eq_true h) hsq) (fun _ => ?_)
              refine Exists.intro _ (And.intro hw ?_)
              exact Exists.intro ⟨i + 1, ms1, c1, T1, h6⟩ (Exists.intro [0, 1, 2] (And.intro ⟨⟨hil, ht1.mono hs3, ((hs.trans hs1).trans hs2).trans hs3, by simp only; omega, hat1⟩, by simp only; omega⟩ ⟨rfl, rfl, rfl⟩))
            · refine Exists.intro _ (And.intro hw ?_)
              exact Exists.intro ⟨i + 1, ms1, c1, T1, h6⟩ (Exists.intro [0, 1, 2] (And.intro ⟨⟨hil, ht1.mono hs3, ((hs.trans hs1).trans hs2).trans hs3, by simp only; omega, hat1⟩, by simp only; omega⟩ ⟨rfl, rfl, rfl⟩))
end Go.Proofs

namespace Go.Proofs.Ytlaanieheglnjaa
open Go.ChangeShapes Go.WideShapes Go.ChangeAt Go.RowKit Go.V Go.Joins
set_option maxRecDepth 100000

theorem instPromise_lifted (os : Os) (started : os.Started) (H : Type) (enc : TypeId × Value → H) :
    ReturnsInHanded {} Try.checked os 6 .any (Rows.instPromiseSpec.pre6 enc Try.prog Try.f6 Rows.instPromiseRow.domain false) (Rows.instPromiseSpec.post enc Try.prog Try.f6 false true false false) := by
  refine returnsInHanded_of_change (C := Try.checked) own started (by kernel_rfl) Try.func6
    (ChangeSpec.witness6 (enc := enc) (C := Try.checked) false ⟨#[], #[.slice none 0 0], []⟩ 8 (by kernel_rfl) (by kernel_rfl) (by kernel_rfl) (by kernel_rfl)) ?_
  intro W base args ds gs before hval0 hW hcnd _
  have hval : ∀ (j : Nat) t v, Try.f6.params[j]? = some t → args[j]? = some v → Value.okWide Try.prog W .any base t v := hval0
  have hW' := hW
  obtain ⟨p, q, hA0, hV, rfl, hfz, hnd⟩ := hW
  have hA : DataW.TrodAll enc Try.prog W 0 (fun _ => true) true Try.f6.params.toList args.toList ds p := hA0
  rw [Try.params6] at hA hval
  obtain ⟨v0, vs0, d0, ds0, p0, q0, hargs, rfl, rfl, h0, r0⟩ := trodAll_cons hA
  obtain ⟨rfl, rfl, rfl⟩ := trodAll_nil r0
  obtain rfl : args = #[v0] := by cases args; simp_all
  obtain ⟨rfl, rfl⟩ := trodVars_none hV
  have k0 := h0
  have lt0 : ∀ x ∈ p0, x.block < W.heap.size := by obtain ⟨m, hm⟩ := k0; exact DataW.trod_lt m _ _ _ hm
  obtain ⟨a0, len0, cap0, rfl⟩ := okWide_slice Try.underlying22 (hval 0 22 v0 rfl rfl)
  obtain ⟨m0, h0⟩ := h0
  obtain ⟨L0, hL0⟩ := open_msgs h0
  clear hA0 hval0
  refine Calls.mono (ctr_all (s_InstPromise (allH W) _ L0 hL0) rfl rfl (r := .bool true) ?_) fun e W' ⟨he, bel⟩ => ?_
  · rintro v H' ρ' ⟨rfl, h', rfl, hs⟩; exact ⟨rfl, h', rfl, hs⟩
  subst he
  exact ⟨_, rfl, _, _, _, [], _, [], hW', trodAll_mk1 (shut_bool Try.underlying4 _), (trodAll_cons_mk (Below.trod laidOut (by kernel_rfl) (of_decide_eq_true (by kernel_rfl)) k0 bel lt0) trodAll_mk0), rfl, bel.frame _, fun h => by cases h⟩

theorem instPromise_holds : Rows.InstPromiseSaid :=
  OpenClaim.holds_of_wide 6 Try.f6 rfl rfl rfl rfl rfl rfl rfl ⟨rfl, rfl, rfl, rfl, rfl⟩ rfl rfl rfl rfl rfl (by kernel_rfl) Try.func6 (by kernel_rfl)
    (of_decide_eq_true (by kernel_rfl)) (by unfold Func.isWrapper; first | (rw [if_pos (by decide +kernel)]; kernel_rfl) | (rw [if_neg (by decide +kernel)]; exact ⟨rfl, rfl⟩))
    (fun os started H enc _ => instPromise_lifted os started H enc)
end Go.Proofs.Ytlaanieheglnjaa

