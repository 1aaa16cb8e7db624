/- Part of the proof that the statement named in the last file holds: lemmas of the prover's own. No conditions. -/
import Derived.Test.YtlaanieheglnjaaDC
namespace Go.Proofs
open Go Go.V
set_option maxRecDepth 100000
set_option linter.unusedVariables false

theorem cmpD_self' (b : Int × Int) : ¬ cmpD b b < 0 := by rw [cmpD_self]; omega
theorem sameR_refl (R : AR) : sameR R R = true := by
  have h1 : eqDep R.deps R.deps = true := eqDep_iff.2 fun _ _ => rfl
  have h2 : eqB R.b R.b = true := eqB_iff.2 rfl
  have h3 : eqB R.a R.a = true := eqB_iff.2 rfl
  simp [sameR, h1, h2, h3]
/-- A message that is told twice. -/
theorem DoR.twice {T T1 T2 : Int × Int → AR} {M : MA} {ok1 ok2 : Bool} {e1 e2 : Int} {b1 b2 : Int × Int} {R1 R2 : AR} (h : DoR T M ok1 e1 b1 R1 T1) (h' : DoR T1 M ok2 e2 b2 R2 T2) : e1 = e2 ∧ ok1 = ok2 ∧ T2 M.dot = T1 M.dot := by
  rcases h with ⟨m1, rfl, rfl, _, _, rfl⟩ | ⟨m1, rfl, _, _, h⟩ <;> rcases h' with ⟨m2, rfl, rfl, _, _, rfl⟩ | ⟨m2, rfl, _, _, h'⟩
  · exact ⟨rfl, rfl, rfl⟩
  · rw [m1] at m2; cases m2
  · rw [m1] at m2; cases m2
  refine ⟨rfl, ?_⟩
  rcases h with ⟨o1, rfl⟩ | ⟨o1, rfl, seq, deps, hW, rfl⟩
  · rcases h' with ⟨o2, rfl⟩ | ⟨o2, _⟩
    · rw [o1] at o2; cases o2; exact ⟨rfl, rfl⟩
    · rw [o1] at o2; cases o2
  · have hT : updT T M.dot (newA M (T M.dot) seq deps) M.dot = newA M (T M.dot) seq deps := if_pos rfl
    rw [hT] at h' ⊢
    have hst : (T M.dot).st ≠ 3 := by
      intro h3; simp [oldA, h3] at o1
    obtain ⟨hk, _⟩ := mayA_iff m1
    have cs := cmpD_self' M.b
    by_cases k1 : M.kind = 1
    · have hn : newA M (T M.dot) seq deps = ⟨1, M.cmd, if seq > M.seq then seq else M.seq, vmax M.deps deps, M.b, M.b⟩ := if_pos k1
      have ho : oldA M (newA M (T M.dot) seq deps) = some true := by rw [hn]; simp [oldA, k1, cs]
      rcases h' with ⟨o2, rfl⟩ | ⟨o2, _⟩
      · rw [ho] at o2; cases o2; exact ⟨rfl, hT⟩
      · rw [ho] at o2; cases o2
    by_cases k2 : M.kind = 2
    · have hn : ∀ R s d, newA M R s d = ⟨2, M.cmd, M.seq, M.deps, M.b, M.b⟩ := fun R s d => by simp [newA, k2]
      have ho : oldA M (newA M (T M.dot) seq deps) = none := by rw [hn]; simp [oldA, k2, cs]
      rcases h' with ⟨o2, _⟩ | ⟨o2, rfl, s, d, _, rfl⟩
      · rw [ho] at o2; cases o2
      · refine ⟨rfl, ?_⟩
        simp only [updT, if_true]; rw [hn, hn]
    by_cases k3 : M.kind = 3
    · have hn : newA M (T M.dot) seq deps = ⟨3, M.cmd, M.seq, M.deps, mostB M.b (T M.dot).b, mostB M.b (T M.dot).a⟩ := by simp [newA, k3]
      have ho : oldA M (newA M (T M.dot) seq deps) = some true := by rw [hn]; simp [oldA, k3]
      rcases h' with ⟨o2, rfl⟩ | ⟨o2, _⟩
      · rw [ho] at o2; cases o2; exact ⟨rfl, hT⟩
      · rw [ho] at o2; cases o2
    · have hn : ∀ R s d, newA M R s d = { R with b := M.b } := fun R s d => by simp [newA, k1, k2, k3]
      have ho : oldA M (newA M (T M.dot) seq deps) = none := by rw [hn]; simp [oldA, k1, k3, cs, hst]
      rcases h' with ⟨o2, _⟩ | ⟨o2, rfl, s, d, _, rfl⟩
      · rw [ho] at o2; cases o2
      · refine ⟨rfl, ?_⟩
        simp only [updT, if_true]; rw [hn, hn]

set_option maxHeartbeats 1000000 in
theorem s_InstTwice (h : Nat → Option Obj) (v : Value) (L : List MA) (hv : MsgsIs h v L) :
    Ctr Try.prog F_rostrumlaw20_InstTwice [.raw v] [.heap h] (fun x H => x = bv true ∧ ∃ h', H = [.heap h'] ∧ Sub h h') := by
  obtain ⟨la, lc, rfl⟩ := hv.shape
  refine i_rostrumlaw20_InstTwice.spec follows ?_
  refine VCall.mk [0] (s_awake h) ⟨rfl, rfl, rfl⟩ ?_
  rintro _ _ ⟨rfl, h0, rfl, hs0⟩
  refine And.intro (fun h => absurd h (by simp)) (fun _ => ?_)
  refine VCall.mk [0] (s_light h0 _ L (hv.mono hs0)) ⟨rfl, rfl, rfl⟩ ?_
  rintro _ _ ⟨rfl, rfl⟩
  refine And.intro (fun hl => ?_) (fun hl => ?_)
  · exact VRet.mk [0] (bv true) [.heap h0] ⟨rfl, rfl, rfl⟩ ⟨rfl, h0, rfl, hs0⟩
  have hlight : lightB L = true := by simpa using hl
  have hL : L.length ≤ 40 := by
    simp only [lightB, Bool.and_eq_true, decide_eq_true_eq] at hlight
    exact hlight.1
  refine VCall.mk [] s_New ⟨rfl, rfl, rfl⟩ ?_
  rintro _ _ ⟨rfl, rfl⟩
  refine VLoop.mk HX (fun x => [(0, .raw (.slice la L.length lc)), (3, .ptr 1 0), (4, iv x.i)]) (fun x => [.heap x.h, tbl 2, rmap x.ms x.c])
    (fun x => x.i ≤ L.length ∧ Tab x.h x.ms x.c x.T (1099511627776 + 2 * x.i) ∧ Sub h x.h ∧ x.ms.length ≤ 2 * x.i) (fun x => L.length - x.i) ⟨0, [], 0, fun _ => zeroA, h0⟩ [0, 1, 2]
    ⟨⟨Nat.zero_le _, Tab.nil _ (by show (0 : Int) ≤ 1099511627776 + 2 * ((0 : Nat) : Int); decide), hs0, Nat.le_refl _⟩, rfl, rfl, rfl⟩ ?_
  rintro ⟨i, ms, c, T, h1⟩ ⟨hi, ht, hs, hml⟩ g
  simp only at hi ht hs hml
  refine And.intro (fun h2 => ?_) (fun h2 => ?_)
  · have h2 := of_decide_eq_true h2
    have hil : i < L.length := by simp only at h2; omega
    have hw : IntKind.i64.wrap ((i : Int) + 1) = ((i + 1 : Nat) : Int) := wrap64 (by omega)
    obtain ⟨bb, o, xs, e, fr, m, rfl, hh, hc, hm⟩ := (hv.mono hs).at hil
    have hc2 := cut_sub hc 1 2 (by omega)
    have hn : (0 : Int) ≤ (i : Int) ∧ (i : Int) < (L.length : Nat) := ⟨Int.natCast_nonneg i, by omega⟩
    have hdot : m.dot = L[i].dot := hm.dot
    refine And.intro hn ?_
    refine Exists.intro 0 (Exists.intro xs (Exists.intro e (Exists.intro fr (And.intro hh (Exists.intro _ (And.intro (by rw [Int.toNat_natCast]; exact hc) ?_))))))
    refine VCall.mk [1, 2, 0] (s_Do2 h1 ms c T _ ht (by omega) m L[i] hm) ⟨rfl, rfl, rfl⟩ ?_
    rintro _ _ ⟨ok1, e1, b1, r1, R1, T1, ms1, c1, h2', rfl, rfl, hs1, ht1, hr1, hD1, hl1⟩
    obtain ⟨ra1, rc1, hrc1⟩ := hr1.cmd.shape
    obtain ⟨rst1, rcmd1, rseq1, rdeps1, rb1, raa1⟩ := r1
    simp only at hrc1
    subst hrc1
    refine And.intro hn ?_
    refine Exists.intro 0 (Exists.intro xs (Exists.intro e (Exists.intro fr (And.intro (hs1 _ _ hh) (Exists.intro _ (And.intro (by rw [Int.toNat_natCast]; exact hc2) ?_))))))
    refine VCall.mk [1, 2, 0] (s_Rec h2' ms1 c1 T1 _ ht1 m.dot) ⟨rfl, rfl, rfl⟩ ?_
    rintro _ _ ⟨w, h3, rfl, hrw, rfl, hs2⟩
    obtain ⟨wa, wc, hwc⟩ := hrw.cmd.shape
    obtain ⟨wst, wcmd, wseq, wdeps, wb, waa⟩ := w
    simp only at hwc
    subst hwc
    refine And.intro hn ?_
    refine Exists.intro 0 (Exists.intro xs (Exists.intro e (Exists.intro fr (And.intro (hs2 _ _ (hs1 _ _ hh)) (Exists.intro _ (And.intro (by rw [Int.toNat_natCast]; exact hc) ?_))))))
    refine VCall.mk [1, 2, 0] (s_Do2 h3 ms1 c1 T1 _ (ht1.mono hs2) (by omega) m L[i] ((hm.mono hs1).mono hs2)) ⟨rfl, rfl, rfl⟩ ?_
    rintro _ _ ⟨ok2, e2, b2, r2, R2, T2, ms2, c2, h4, rfl, rfl, hs3, ht2, hr2, hD2, hl2⟩
    obtain ⟨ra2, rc2, hrc2⟩ := hr2.cmd.shape
    obtain ⟨rst2, rcmd2, rseq2, rdeps2, rb2, raa2⟩ := r2
    simp only at hrc2
    subst hrc2
    obtain ⟨rfl, rfl, hT⟩ := hD1.twice hD2
    refine And.intro (fun _ => ?_) (fun h => absurd h (by simp))
    refine And.intro (fun _ => ?_) (fun h => absurd h (by simp))
    refine And.intro hn ?_
    refine Exists.intro 0 (Exists.intro xs (Exists.intro e (Exists.intro fr (And.intro (hs3 _ _ (hs2 _ _ (hs1 _ _ hh))) (Exists.intro _ (And.intro (by rw [Int.toNat_natCast]; exact hc2) ?_))))))
    refine VCall.mk [1, 2, 0] (s_Rec h4 ms2 c2 T2 _ ht2 m.dot) ⟨rfl, rfl, rfl⟩ ?_
    rintro _ _ ⟨u, h5, rfl, hru, rfl, hs4⟩
    obtain ⟨ua, uc, huc⟩ := hru.cmd.shape
    obtain ⟨ust, ucmd, useq, udeps, ub, uaa⟩ := u
    simp only at huc
    subst huc
    refine And.intro rfl ?_
    refine VCall.mk [0] (s_Same h5 _ _ _ _ ((hrw.mono hs3).mono hs4) hru) ⟨rfl, rfl, rfl⟩ ?_
    rintro _ _ ⟨rfl, rfl⟩
    have hsame : sameR (T1 m.dot) (T2 m.dot) = true := by rw [hdot, hT]; exact sameR_refl _
    rw [hsame]
    refine And.intro (fun h => absurd h (by simp)) (fun _ => ?_)
    refine Exists.intro _ (And.intro hw ?_)
    exact Exists.intro ⟨i + 1, ms2, c2, T2, h5⟩ (Exists.intro [0, 1, 2] (And.intro ⟨⟨hil, (ht2.mono hs4).up (by simp only; omega), (((hs.trans hs1).trans hs2).trans hs3).trans hs4, by simp only; omega⟩, by simp only; omega⟩ ⟨rfl, rfl, rfl⟩))
  · exact VRet.mk [0] (bv true) [.heap h1] ⟨rfl, rfl, rfl⟩ ⟨rfl, h1, rfl, hs⟩
end Go.Proofs

namespace Go.Proofs
open Go Go.V
set_option maxRecDepth 100000
set_option linter.unusedVariables false

theorem cmpI_lt {a b : Int} : cmpI a b < 0 ↔ a < b := by
  unfold cmpI; split
  · simp_all
  · split <;> simp_all
theorem cmpD_lt' {x y : Int × Int} : cmpD x y < 0 ↔ x.1 < y.1 ∨ (x.1 = y.1 ∧ x.2 < y.2) := cmpD_lt
theorem cmpD_gt {x y : Int × Int} : 0 < cmpD x y ↔ y.1 < x.1 ∨ (x.1 = y.1 ∧ y.2 < x.2) := by
  simp only [cmpD, orI, cmpI]
  by_cases h1 : x.1 < y.1
  · simp [h1]; omega
  · by_cases h2 : y.1 < x.1
    · simp [h1, h2]
    · by_cases h3 : x.2 < y.2
      · simp [h1, h2, h3]; omega
      · by_cases h4 : y.2 < x.2
        · simp [h1, h2, h3, h4]; omega
        · simp [h1, h2, h3, h4]
theorem mostB_ge (a b : Int × Int) : ¬ cmpD (mostB a b) b < 0 ∧ ¬ cmpD (mostB a b) a < 0 := by
  unfold mostB
  split
  · rename_i h
    rw [cmpD_gt] at h
    exact ⟨cmpD_self' b, by rw [cmpD_lt']; omega⟩
  · rename_i h
    rw [cmpD_gt] at h
    exact ⟨by rw [cmpD_lt']; omega, cmpD_self' a⟩
/-- The ballot at which something was heard is none beyond the promise. -/
def AtOK (T : Int × Int → AR) : Prop := ∀ d, ¬ cmpD (T d).b (T d).a < 0
theorem AtOK.zero : AtOK (fun _ => zeroA) := fun _ => cmpD_self' _
theorem mostB_mono {m a b : Int × Int} (h : ¬ cmpD b a < 0) : ¬ cmpD (mostB m b) (mostB m a) < 0 := by
  unfold mostB
  rw [cmpD_lt'] at h
  have h1 := @cmpD_gt b m
  have h2 := @cmpD_gt a m
  split <;> split <;> rename_i g1 g2 <;> rw [cmpD_lt'] <;> first | omega | (rw [h1] at g1; rw [h2] at g2; omega)
theorem oldA_none {M : MA} {R : AR} (h : oldA M R = none) : R.st ≠ 3 ∧ (M.kind ≠ 3 → ¬ cmpD M.b R.b < 0 ∧ (M.kind = 1 → R.st ≠ 2 ∧ ¬ (R.st = 1 ∧ R.a = M.b))) := by
  unfold oldA at h
  by_cases h1 : R.st = 3
  · simp [h1] at h
  refine ⟨h1, fun h2 => ?_⟩
  by_cases h3 : cmpD M.b R.b < 0
  · simp [h1, h2, h3] at h
  refine ⟨h3, fun h4 => ?_⟩
  by_cases h5 : R.st = 2
  · simp [h4, h5] at h
  refine ⟨h5, fun ⟨h6, h7⟩ => ?_⟩
  simp [h4, h6, h7, h3] at h
theorem oldA_true {M : MA} {R : AR} (h : oldA M R = some true) : M.kind = 3 ∨ (R.st ≠ 3 ∧ ¬ cmpD M.b R.b < 0 ∧ M.kind = 1 ∧ R.st = 1 ∧ R.a = M.b) := by
  unfold oldA at h
  by_cases h1 : R.st = 3
  · left; simpa [h1] using h
  by_cases h2 : M.kind = 3
  · exact .inl h2
  right
  by_cases h3 : cmpD M.b R.b < 0
  · simp [h1, h2, h3] at h
  by_cases h4 : M.kind = 1
  · by_cases h5 : R.st = 2
    · simp [h4, h5] at h
    · simp [h1, h3, h4, h5, cond_eq_ite] at h
      exact ⟨h1, h3, h4, h.1, Prod.ext h.2.1 h.2.2⟩
  · simp [h1, h2, h3, h4] at h
structure Kept (M : MA) (R S : AR) (ok : Bool) : Prop where
  up : ¬ cmpD S.b R.b < 0
  com : R.st = 3 → sameR R S = true
  no : ok = false → sameR R S = true
  yes : ok = true → M.kind ≠ 3 → ¬ cmpD M.b R.b < 0 ∧ S.b = M.b
  acc : R.st = 2 → ¬ S.st < 2
  hear : ok = true → M.kind = 1 → ¬ (R.st = 1 ∧ R.a = M.b) → (∀ i, i < 7 → M.deps i ≤ S.deps i) ∧ ¬ S.seq < M.seq
theorem vmax_le (d d' : Nat → Int) (i : Nat) : d i ≤ vmax d d' i := by simp only [vmax]; split <;> omega
theorem DoR.kept {T T' : Int × Int → AR} {M : MA} {ok : Bool} {e : Int} {b : Int × Int} {R : AR} (h : DoR T M ok e b R T') (hm : mayA M = true) (ha : AtOK T) : e = 0 ∧ AtOK T' ∧ Kept M (T M.dot) (T' M.dot) ok := by
  rcases h with ⟨h1, _⟩ | ⟨_, rfl, _, _, ⟨ho, rfl⟩ | ⟨ho, rfl, seq, deps, hW, rfl⟩⟩
  · rw [hm] at h1; cases h1
  · refine ⟨rfl, ha, ⟨cmpD_self' _, fun _ => sameR_refl _, fun _ => sameR_refl _, fun h1 h2 => ?_, fun h1 => by omega, fun h1 h2 h3 => ?_⟩⟩
    · subst h1
      rcases oldA_true ho with h3 | ⟨_, h4, _, _, h7⟩
      · exact absurd h3 h2
      · refine ⟨h4, ?_⟩
        have := ha M.dot
        rw [h7] at this
        rw [cmpD_lt'] at this h4
        exact Prod.ext (by omega) (by omega)
    · subst h1
      rcases oldA_true ho with h4 | ⟨_, _, _, h5, h6⟩
      · omega
      · exact absurd ⟨h5, h6⟩ h3
  · obtain ⟨hst, hno⟩ := oldA_none ho
    have hT : updT T M.dot (newA M (T M.dot) seq deps) M.dot = newA M (T M.dot) seq deps := if_pos rfl
    have hat := ha M.dot
    refine ⟨rfl, ?_, ?_⟩
    · intro d
      unfold updT
      split
      · by_cases k1 : M.kind = 1
        · rw [show newA M (T M.dot) seq deps = ⟨1, M.cmd, if seq > M.seq then seq else M.seq, vmax M.deps deps, M.b, M.b⟩ from if_pos k1]
          exact cmpD_self' _
        by_cases k2 : M.kind = 2
        · rw [show newA M (T M.dot) seq deps = ⟨2, M.cmd, M.seq, M.deps, M.b, M.b⟩ by simp [newA, k2]]
          exact cmpD_self' _
        by_cases k3 : M.kind = 3
        · rw [show newA M (T M.dot) seq deps = ⟨3, M.cmd, M.seq, M.deps, mostB M.b (T M.dot).b, mostB M.b (T M.dot).a⟩ by simp [newA, k3]]
          exact mostB_mono hat
        · rw [show newA M (T M.dot) seq deps = { T M.dot with b := M.b } by simp [newA, k1, k2, k3]]
          have h9 := (hno k3).1
          show ¬ cmpD M.b (T M.dot).a < 0
          rw [cmpD_lt'] at h9 hat ⊢; omega
      · exact ha d
    · rw [hT]
      by_cases k1 : M.kind = 1
      · have hn : newA M (T M.dot) seq deps = ⟨1, M.cmd, if seq > M.seq then seq else M.seq, vmax M.deps deps, M.b, M.b⟩ := if_pos k1
        obtain ⟨n1, n2⟩ := hno (by omega)
        rw [hn]
        exact ⟨n1, fun h => absurd h hst, fun h => (by cases h), fun _ _ => ⟨n1, rfl⟩, fun h => absurd h (n2 k1).1, fun _ _ _ => ⟨fun i _ => vmax_le _ _ i, by simp only; split <;> omega⟩⟩
      by_cases k2 : M.kind = 2
      · have hn : newA M (T M.dot) seq deps = ⟨2, M.cmd, M.seq, M.deps, M.b, M.b⟩ := by simp [newA, k2]
        obtain ⟨n1, n2⟩ := hno (by omega)
        rw [hn]
        exact ⟨n1, fun h => absurd h hst, fun h => (by cases h), fun _ _ => ⟨n1, rfl⟩, fun _ => (by simp), fun _ h => absurd h k1⟩
      by_cases k3 : M.kind = 3
      · have hn : newA M (T M.dot) seq deps = ⟨3, M.cmd, M.seq, M.deps, mostB M.b (T M.dot).b, mostB M.b (T M.dot).a⟩ := by simp [newA, k3]
        rw [hn]
        exact ⟨(mostB_ge _ _).1, fun h => absurd h hst, fun h => (by cases h), fun _ h => absurd k3 h, fun _ => (by simp), fun _ h => absurd h k1⟩
      · have hn : newA M (T M.dot) seq deps = { T M.dot with b := M.b } := by simp [newA, k1, k2, k3]
        obtain ⟨n1, n2⟩ := hno k3
        rw [hn]
        exact ⟨n1, fun h => absurd h hst, fun h => (by cases h), fun _ _ => ⟨n1, rfl⟩, fun h => (by simp only; omega), fun _ h => absurd h k1⟩
end Go.Proofs

namespace Go.Proofs
open Go Go.V
set_option maxRecDepth 100000
set_option linter.unusedVariables false

/-- May a record be put in at a dot? -/
def okR (d : Int × Int) (R : AR) : Bool := dotB d && (!decide (R.st < 1) && (!decide (R.st > 3) && (contentB R.cmd.length R.seq R.deps && (goodB R.b && goodB R.a))))
theorem contentB_iff {n : Nat} {seq : Int} {d : Nat → Int} (h : contentB n seq d = true) : (0 ≤ seq) ∧ seq ≤ 1099511627776 ∧ n ≤ 300 := by
  simp only [contentB, Bool.and_eq_true, decide_eq_true_eq] at h
  omega
def LoadPost (h : Nat → Option Obj) (ms : RM) (c : Nat) (T : Int × Int → AR) (B : Int) (d : Int × Int) (R : AR) (x : SV) (H : List SO) : Prop :=
  (okR d R = false ∧ x = iv 1 ∧ H = [tbl 1, rmap ms c, .heap h]) ∨
  (okR d R = true ∧ ∃ ms' c' h', x = iv 0 ∧ H = [tbl 1, rmap ms' c', .heap h'] ∧ Sub h h' ∧ Tab h' ms' c' (updT T d R) B ∧ ms'.length ≤ ms.length + 1)
theorem s_Load (h : Nat → Option Obj) (ms : RM) (c : Nat) (T : Int × Int → AR) (B : Int) (ht : Tab h ms c T B) (hB : 1099511627776 ≤ B) (d : Int × Int) (r : RecV) (R : AR) (hr : RIs h r R) :
    Ctr Try.prog F_inst_Table_Load [.ptr 0 0, .agg (dcells d.1 d.2), .agg (rcells r)] [tbl 1, rmap ms c, .heap h] (LoadPost h ms c T B d R) := by
  obtain ⟨ra, rc, hrc⟩ := hr.cmd.shape
  have hr0 := hr
  obtain ⟨rst, rcmd, rseq, rdeps, rb, raa⟩ := r
  obtain ⟨f1, f2, f3, f4, f5, f6⟩ := hr
  simp only at f1 f2 f3 f4 f5 f6 hrc
  subst hrc f1 f3 f4 f5 f6
  have bad : okR d R = false → LoadPost h ms c T B d R (iv 1) [tbl 1, rmap ms c, .heap h] := fun hk => .inl ⟨hk, rfl, rfl⟩
  refine i_inst_Table_Load.spec follows ?_
  refine VCall.mk [] (s_inst_Dot d) ⟨rfl, rfl, rfl⟩ ?_
  rintro _ _ ⟨rfl, rfl⟩
  refine And.intro (fun k1 => ?_) (fun k1 => VRet.mk [0, 1, 2] (iv 1) [tbl 1, rmap ms c, .heap h] ⟨rfl, rfl, rfl⟩ (bad (by rw [show okR d R = false by simp [okR, show dotB d = false by simpa using k1]])))
  have k1 : dotB d = true := by simpa using k1
  refine And.intro (fun k2 => ?_) (fun k2 => VRet.mk [0, 1, 2] (iv 1) [tbl 1, rmap ms c, .heap h] ⟨rfl, rfl, rfl⟩ (bad (by simp only [okR, k2]; simp)))
  refine And.intro (fun k3 => ?_) (fun k3 => VRet.mk [0, 1, 2] (iv 1) [tbl 1, rmap ms c, .heap h] ⟨rfl, rfl, rfl⟩ (bad (by simp only [okR]; rw [show decide (R.st > 3) = true from k3]; simp)))
  refine VCall.mk [] (s_inst_content ra R.cmd.length rc R.seq R.deps) ⟨rfl, rfl, rfl⟩ ?_
  rintro _ _ ⟨rfl, rfl⟩
  refine And.intro (fun k4 => ?_) (fun k4 => VRet.mk [0, 1, 2] (iv 1) [tbl 1, rmap ms c, .heap h] ⟨rfl, rfl, rfl⟩ (bad (by rw [show okR d R = false by simp [okR, show contentB R.cmd.length R.seq R.deps = false by simpa using k4]])))
  have k4 : contentB R.cmd.length R.seq R.deps = true := by simpa using k4
  refine VCall.mk [] (s_ballot_Good R.b) ⟨rfl, rfl, rfl⟩ ?_
  rintro _ _ ⟨rfl, rfl⟩
  refine And.intro (fun k5 => ?_) (fun k5 => VRet.mk [0, 1, 2] (iv 1) [tbl 1, rmap ms c, .heap h] ⟨rfl, rfl, rfl⟩ (bad (by rw [show okR d R = false by simp [okR, show goodB R.b = false by simpa using k5]])))
  have k5 : goodB R.b = true := by simpa using k5
  refine VCall.mk [] (s_ballot_Good R.a) ⟨rfl, rfl, rfl⟩ ?_
  rintro _ _ ⟨rfl, rfl⟩
  refine And.intro (fun k6 => VRet.mk [0, 1, 2] (iv 1) [tbl 1, rmap ms c, .heap h] ⟨rfl, rfl, rfl⟩ (bad (by rw [show okR d R = false by simp [okR, show goodB R.a = false by simpa using k6]]))) (fun k6 => ?_)
  have k6 : goodB R.a = true := by simpa using k6
  have hok : okR d R = true := by
    simp only [okR, k1, k4, k5, k6, Bool.and_true, Bool.true_and, Bool.and_eq_true, Bool.not_eq_true']
    exact ⟨k2, k3⟩
  have hct := contentB_iff k4
  refine VCall.mk [2] (s_inst_copied h (⟨R.st, .slice ra R.cmd.length rc, R.seq, R.deps, R.b, R.a⟩ : RecV) R.cmd hr0.cmd (by have := hct.2.2; omega)) ⟨rfl, rfl, rfl⟩ ?_
  rintro _ _ ⟨v2, h2, rfl, rfl, hs2, hb2⟩
  obtain ⟨wa, wc, rfl⟩ := hb2.shape
  refine And.intro rfl (And.intro rfl (And.intro rfl ?_))
  refine Exists.intro _ (Exists.intro _ (And.intro (update_is (encv := encR) kR ms c d (⟨R.st, .slice wa R.cmd.length wc, R.seq, R.deps, R.b, R.a⟩ : RecV)) ?_))
  refine VRet.mk [0, 1, 2] (iv 0) [tbl 1, rmap (MP.put ms d (⟨R.st, .slice wa R.cmd.length wc, R.seq, R.deps, R.b, R.a⟩ : RecV) c) (if (MP.get ms d).isSome then c else c + 1), .heap h2] ⟨rfl, rfl, rfl⟩
    (.inr ⟨hok, _, _, h2, rfl, rfl, hs2, ?_, put_len _ _ _ _⟩)
  exact (ht.mono hs2).put ⟨rfl, hb2, rfl, rfl, rfl, rfl⟩ k1 (Int.le_refl _) (by have := hct.1; have := hct.2.1; omega) hct.2.2
end Go.Proofs

namespace Go.Proofs
open Go Go.V
set_option maxRecDepth 100000
set_option linter.unusedVariables false

theorem s_bal (b : Int × Int) : Ctr Try.prog F_rostrumlaw20_bal [.agg (bcells b)] [] (fun x H => x = .agg (bcells b) ∧ H = []) := by
  refine i_rostrumlaw20_bal.spec follows ?_
  exact VRet.mk [] (.agg (bcells b)) [] ⟨rfl, rfl, rfl⟩ ⟨rfl, rfl⟩
theorem s_rec (r : RecV) (a : Option Addr) (n c : Nat) (hc : r.cmd = .slice a n c) : Ctr Try.prog F_rostrumlaw20_rec [.agg (rcells r)] [] (fun x H => x = .agg (rcells r) ∧ H = []) := by
  obtain ⟨rst, rcmd, rseq, rdeps, rb, raa⟩ := r
  simp only at hc
  subst hc
  refine i_rostrumlaw20_rec.spec follows ?_
  refine VCall.mk [] (s_bal rb) ⟨rfl, rfl, rfl⟩ ?_
  rintro _ _ ⟨rfl, rfl⟩
  refine And.intro rfl (And.intro rfl (And.intro rfl (And.intro rfl (And.intro rfl ?_))))
  refine VCall.mk [] (s_bal raa) ⟨rfl, rfl, rfl⟩ ?_
  rintro _ _ ⟨rfl, rfl⟩
  refine And.intro rfl (And.intro rfl (And.intro rfl (And.intro rfl ?_)))
  exact VRet.mk [] (.agg (rcells ⟨rst, .slice a n c, rseq, rdeps, rb, raa⟩)) [] ⟨rfl, rfl, rfl⟩ ⟨rfl, rfl⟩
theorem s_ans (ok : Bool) (b : Int × Int) (r : RecV) (a : Option Addr) (n c : Nat) (hc : r.cmd = .slice a n c) : Ctr Try.prog F_rostrumlaw20_ans [.agg (acells ok b r)] [] (fun x H => x = .agg (acells ok b r) ∧ H = []) := by
  obtain ⟨rst, rcmd, rseq, rdeps, rb, raa⟩ := r
  simp only at hc
  subst hc
  refine i_rostrumlaw20_ans.spec follows ?_
  refine VCall.mk [] (s_bal b) ⟨rfl, rfl, rfl⟩ ?_
  rintro _ _ ⟨rfl, rfl⟩
  refine And.intro rfl (And.intro rfl ?_)
  refine VCall.mk [] (s_rec ⟨rst, .slice a n c, rseq, rdeps, rb, raa⟩ a n c rfl) ⟨rfl, rfl, rfl⟩ ?_
  rintro _ _ ⟨rfl, rfl⟩
  refine And.intro rfl ?_
  exact VRet.mk [] (.agg (acells ok b ⟨rst, .slice a n c, rseq, rdeps, rb, raa⟩)) [] ⟨rfl, rfl, rfl⟩ ⟨rfl, rfl⟩
theorem s_SameRec (h : Nat → Option Obj) (r s : RecV) (R S : AR) (hr : RIs h r R) (hs : RIs h s S) :
    Ctr Try.prog F_rostrumref18_SameRec [.agg (rcells r), .agg (rcells s)] [.heap h] (fun x H => x = bv (sameR R S) ∧ H = [.heap h]) := by
  obtain ⟨ra, rc, hrc⟩ := hr.cmd.shape
  obtain ⟨sa, sc, hsc⟩ := hs.cmd.shape
  have hb := hr.cmd
  have hb' := hs.cmd
  obtain ⟨rst, rcmd, rseq, rdeps, rb, raa⟩ := r
  obtain ⟨sst, scmd, sseq, sdeps, sb, saa⟩ := s
  obtain ⟨f1, f2, f3, f4, f5, f6⟩ := hr
  obtain ⟨g1, g2, g3, g4, g5, g6⟩ := hs
  simp only at f1 f2 f3 f4 f5 f6 g1 g2 g3 g4 g5 g6 hrc hsc hb hb'
  subst hrc hsc f1 f3 f4 f5 f6 g1 g3 g4 g5 g6
  have fin : ∀ (x : Bool) (b1 b2 : SO), sameR R S = x → VRet 1 (bv x) [.heap h, b1, b2] (fun x H => x = bv (sameR R S) ∧ H = [.heap h]) := by
    intro x b1 b2 hx
    exact VRet.mk [0] (bv x) [.heap h] ⟨rfl, rfl, rfl⟩ ⟨by rw [hx], rfl⟩
  refine i_rostrumref18_SameRec.spec follows ?_
  refine And.intro (fun h1 => ?_) (fun h1 => ?_)
  rotate_left 1
  · exact fin _ _ _ (by simp [sameR, of_decide_eq_false h1])
  have k1 : R.st = S.st := of_decide_eq_true h1
  obtain ⟨q, hb⟩ := hb
  obtain ⟨q', hb'⟩ := hb'
  rcases hb with ⟨hx, hl⟩ | ⟨a, n, c, hx, hn, hR⟩ <;> rcases hb' with ⟨hx', hl'⟩ | ⟨a', n', c', hx', hn', hR'⟩
  · rw [hx, hx']
    have e1 : R.cmd = [] := hl
    have e2 : S.cmd = [] := hl'
    refine And.intro (fun h2 => ?_) (fun h2 => ?_)
    rotate_left 1
    · have h2 : ((strOf R.cmd).toList == (strOf S.cmd).toList) = false := by first | exact h2 | (rw [e1]; exact h2) | (rw [e2]; exact h2) | (rw [e1, e2]; exact h2)
      rw [strOf_inj q q'] at h2
      exact fin _ _ _ (by simp [sameR, of_decide_eq_false h2])
    have h2 : ((strOf R.cmd).toList == (strOf S.cmd).toList) = true := by first | exact h2 | (rw [e1]; exact h2) | (rw [e2]; exact h2) | (rw [e1, e2]; exact h2)
    rw [strOf_inj q q'] at h2
    have k2 := of_decide_eq_true h2
    refine And.intro (fun h3 => ?_) (fun h3 => ?_)
    rotate_left 1
    · exact fin _ _ _ (by simp [sameR, of_decide_eq_false h3])
    have k3 : R.seq = S.seq := of_decide_eq_true h3
    refine And.intro (fun h4 => ?_) (fun h4 => ?_)
    rotate_left 1
    · have h4 : eqDep R.deps S.deps = false := h4
      exact fin _ _ _ (by simp [sameR, h4])
    have k4 : eqDep R.deps S.deps = true := h4
    refine And.intro (fun h5 => ?_) (fun h5 => ?_)
    rotate_left 1
    · have h5 : eqB R.b S.b = false := h5
      exact fin _ _ _ (by simp [sameR, h5])
    have k5 : eqB R.b S.b = true := h5
    refine fin _ _ _ ?_
    show sameR R S = eqB R.a S.a
    simp [sameR, k1, k2, k3, k4, k5]
  · rw [hx, hx']
    have e1 : R.cmd = [] := hl
    refine Exists.intro (strOf S.cmd) (And.intro ⟨by rw [strOf_cells q']; exact hR'.b (j := 0) rfl, (strOf_size _).trans hn'⟩ ?_)
    refine And.intro (fun h2 => ?_) (fun h2 => ?_)
    rotate_left 1
    · have h2 : ((strOf R.cmd).toList == (strOf S.cmd).toList) = false := by first | exact h2 | (rw [e1]; exact h2) | (rw [e2]; exact h2) | (rw [e1, e2]; exact h2)
      rw [strOf_inj q q'] at h2
      exact fin _ _ _ (by simp [sameR, of_decide_eq_false h2])
    have h2 : ((strOf R.cmd).toList == (strOf S.cmd).toList) = true := by first | exact h2 | (rw [e1]; exact h2) | (rw [e2]; exact h2) | (rw [e1, e2]; exact h2)
    rw [strOf_inj q q'] at h2
    have k2 := of_decide_eq_true h2
    refine And.intro (fun h3 => ?_) (fun h3 => ?_)
    rotate_left 1
    · exact fin _ _ _ (by simp [sameR, of_decide_eq_false h3])
    have k3 : R.seq = S.seq := of_decide_eq_true h3
    refine And.intro (fun h4 => ?_) (fun h4 => ?_)
    rotate_left 1
    · have h4 : eqDep R.deps S.deps = false := h4
      exact fin _ _ _ (by simp [sameR, h4])
    have k4 : eqDep R.deps S.deps = true := h4
    refine And.intro (fun h5 => ?_) (fun h5 => ?_)
    rotate_left 1
    · have h5 : eqB R.b S.b = false := h5
      exact fin _ _ _ (by simp [sameR, h5])
    have k5 : eqB R.b S.b = true := h5
    refine fin _ _ _ ?_
    show sameR R S = eqB R.a S.a
    simp [sameR, k1, k2, k3, k4, k5]
  · rw [hx, hx']
    have e2 : S.cmd = [] := hl'
    refine Exists.intro (strOf R.cmd) (And.intro ⟨by rw [strOf_cells q]; exact hR.b (j := 0) rfl, (strOf_size _).trans hn⟩ ?_)
    refine And.intro (fun h2 => ?_) (fun h2 => ?_)
    rotate_left 1
    · have h2 : ((strOf R.cmd).toList == (strOf S.cmd).toList) = false := by first | exact h2 | (rw [e1]; exact h2) | (rw [e2]; exact h2) | (rw [e1, e2]; exact h2)
      rw [strOf_inj q q'] at h2
      exact fin _ _ _ (by simp [sameR, of_decide_eq_false h2])
    have h2 : ((strOf R.cmd).toList == (strOf S.cmd).toList) = true := by first | exact h2 | (rw [e1]; exact h2) | (rw [e2]; exact h2) | (rw [e1, e2]; exact h2)
    rw [strOf_inj q q'] at h2
    have k2 := of_decide_eq_true h2
    refine And.intro (fun h3 => ?_) (fun h3 => ?_)
    rotate_left 1
    · exact fin _ _ _ (by simp [sameR, of_decide_eq_false h3])
    have k3 : R.seq = S.seq := of_decide_eq_true h3
    refine And.intro (fun h4 => ?_) (fun h4 => ?_)
    rotate_left 1
    · have h4 : eqDep R.deps S.deps = false := h4
      exact fin _ _ _ (by simp [sameR, h4])
    have k4 : eqDep R.deps S.deps = true := h4
    refine And.intro (fun h5 => ?_) (fun h5 => ?_)
    rotate_left 1
    · have h5 : eqB R.b S.b = false := h5
      exact fin _ _ _ (by simp [sameR, h5])
    have k5 : eqB R.b S.b = true := h5
    refine fin _ _ _ ?_
    show sameR R S = eqB R.a S.a
    simp [sameR, k1, k2, k3, k4, k5]
  · rw [hx, hx']
    refine Exists.intro (strOf R.cmd) (And.intro ⟨by rw [strOf_cells q]; exact hR.b (j := 0) rfl, (strOf_size _).trans hn⟩ ?_)
    refine Exists.intro (strOf S.cmd) (And.intro ⟨by rw [strOf_cells q']; exact hR'.b (j := 0) rfl, (strOf_size _).trans hn'⟩ ?_)
    refine And.intro (fun h2 => ?_) (fun h2 => ?_)
    rotate_left 1
    · have h2 : ((strOf R.cmd).toList == (strOf S.cmd).toList) = false := by first | exact h2 | (rw [e1]; exact h2) | (rw [e2]; exact h2) | (rw [e1, e2]; exact h2)
      rw [strOf_inj q q'] at h2
      exact fin _ _ _ (by simp [sameR, of_decide_eq_false h2])
    have h2 : ((strOf R.cmd).toList == (strOf S.cmd).toList) = true := by first | exact h2 | (rw [e1]; exact h2) | (rw [e2]; exact h2) | (rw [e1, e2]; exact h2)
    rw [strOf_inj q q'] at h2
    have k2 := of_decide_eq_true h2
    refine And.intro (fun h3 => ?_) (fun h3 => ?_)
    rotate_left 1
    · exact fin _ _ _ (by simp [sameR, of_decide_eq_false h3])
    have k3 : R.seq = S.seq := of_decide_eq_true h3
    refine And.intro (fun h4 => ?_) (fun h4 => ?_)
    rotate_left 1
    · have h4 : eqDep R.deps S.deps = false := h4
      exact fin _ _ _ (by simp [sameR, h4])
    have k4 : eqDep R.deps S.deps = true := h4
    refine And.intro (fun h5 => ?_) (fun h5 => ?_)
    rotate_left 1
    · have h5 : eqB R.b S.b = false := h5
      exact fin _ _ _ (by simp [sameR, h5])
    have k5 : eqB R.b S.b = true := h5
    refine fin _ _ _ ?_
    show sameR R S = eqB R.a S.a
    simp [sameR, k1, k2, k3, k4, k5]
theorem s_sameAns (h : Nat → Option Obj) (ok ok' : Bool) (b b' : Int × Int) (r s : RecV) (R S : AR) (hr : RIs h r R) (hs : RIs h s S) :
    Ctr Try.prog F_rostrumlaw20_sameAns [.agg (acells ok b r), .agg (acells ok' b' s)] [.heap h] (fun x H => x = bv ((ok == ok') && (eqB b b' && sameR R S)) ∧ H = [.heap h]) := by
  obtain ⟨ra, rc, hrc⟩ := hr.cmd.shape
  obtain ⟨sa, sc, hsc⟩ := hs.cmd.shape
  have hE := s_SameRec h r s R S hr hs
  obtain ⟨rst, rcmd, rseq, rdeps, rb, raa⟩ := r
  obtain ⟨sst, scmd, sseq, sdeps, sb, saa⟩ := s
  simp only at hrc hsc
  subst hrc hsc
  refine i_rostrumlaw20_sameAns.spec follows ?_
  refine And.intro (fun h1 => ?_) (fun h1 => ?_)
  rotate_left 1
  · have h1 : (ok == ok') = false := h1
    exact VRet.mk [0] (bv false) [.heap h] ⟨rfl, rfl, rfl⟩ ⟨by rw [h1]; rfl, rfl⟩
  have h1 : (ok == ok') = true := h1
  refine And.intro (fun h2 => ?_) (fun h2 => ?_)
  rotate_left 1
  · have h2 : eqB b b' = false := h2
    exact VRet.mk [0] (bv false) [.heap h] ⟨rfl, rfl, rfl⟩ ⟨by rw [h1, h2]; rfl, rfl⟩
  have h2 : eqB b b' = true := h2
  refine VCall.mk [0] hE ⟨rfl, rfl, rfl⟩ ?_
  rintro _ _ ⟨rfl, rfl⟩
  exact VRet.mk [0] (bv (sameR R S)) [.heap h] ⟨rfl, rfl, rfl⟩ ⟨by rw [h1, h2]; rfl, rfl⟩
end Go.Proofs

