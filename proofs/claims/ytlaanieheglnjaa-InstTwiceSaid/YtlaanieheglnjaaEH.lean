/- Part of the proof that the statement named in the last file holds: lemmas of the prover's own. No conditions. -/
import Derived.Test.YtlaanieheglnjaaDC
namespace Go.Proofs
open Go Go.V
set_option maxRecDepth 100000
set_option linter.unusedVariables false

theorem cmpD_self' (b : Int × Int) : ¬ cmpD b b < 0 := by rw [cmpD_self]; omega
theorem sameR_refl (R : AR) : sameR R R = true := by
  have h1 : eqDep R.deps R.deps = true := eqDep_iff.2 fun _ _ => rfl
  have h2 : eqB R.b R.b = true := eqB_iff.2 rfl
  have h3 : eqB R.a R.a = true := eqB_iff.2 rfl
  simp [sameR, h1, h2, h3]
/-- A message that is told twice. -/
theorem DoR.twice {T T1 T2 : Int × Int → AR} {M : MA} {ok1 ok2 : Bool} {e1 e2 : Int} {b1 b2 : Int × Int} {R1 R2 : AR} (h : DoR T M ok1 e1 b1 R1 T1) (h' : DoR T1 M ok2 e2 b2 R2 T2) : e1 = e2 ∧ ok1 = ok2 ∧ T2 M.dot = T1 M.dot := by
  rcases h with ⟨m1, rfl, rfl, _, _, rfl⟩ | ⟨m1, rfl, _, _, h⟩ <;> rcases h' with ⟨m2, rfl, rfl, _, _, rfl⟩ | ⟨m2, rfl, _, _, h'⟩
  · exact ⟨rfl, rfl, rfl⟩
  · rw [m1] at m2; cases m2
  · rw [m1] at m2; cases m2
  refine ⟨rfl, ?_⟩
  rcases h with ⟨o1, rfl⟩ | ⟨o1, rfl, seq, deps, hW, rfl⟩
  · rcases h' with ⟨o2, rfl⟩ | ⟨o2, _⟩
    · rw [o1] at o2; cases o2; exact ⟨rfl, rfl⟩
    · rw [o1] at o2; cases o2
  · have hT : updT T M.dot (newA M (T M.dot) seq deps) M.dot = newA M (T M.dot) seq deps := if_pos rfl
    rw [hT] at h' ⊢
    have hst : (T M.dot).st ≠ 3 := by
      intro h3; simp [oldA, h3] at o1
    obtain ⟨hk, _⟩ := mayA_iff m1
    have cs := cmpD_self' M.b
    by_cases k1 : M.kind = 1
    · have hn : newA M (T M.dot) seq deps = ⟨1, M.cmd, if seq > M.seq then seq else M.seq, vmax M.deps deps, M.b, M.b⟩ := if_pos k1
      have ho : oldA M (newA M (T M.dot) seq deps) = some true := by rw [hn]; simp [oldA, k1, cs]
      rcases h' with ⟨o2, rfl⟩ | ⟨o2, _⟩
      · rw [ho] at o2; cases o2; exact ⟨rfl, hT⟩
      · rw [ho] at o2; cases o2
    by_cases k2 : M.kind = 2
    · have hn : ∀ R s d, newA M R s d = ⟨2, M.cmd, M.seq, M.deps, M.b, M.b⟩ := fun R s d => by simp [newA, k2]
      have ho : oldA M (newA M (T M.dot) seq deps) = none := by rw [hn]; simp [oldA, k2, cs]
      rcases h' with ⟨o2, _⟩ | ⟨o2, rfl, s, d, _, rfl⟩
      · rw [ho] at o2; cases o2
      · refine ⟨rfl, ?_⟩
        simp only [updT, if_true]; rw [hn, hn]
    by_cases k3 : M.kind = 3
    · have hn : newA M (T M.dot) seq deps = ⟨3, M.cmd, M.seq, M.deps, mostB M.b (T M.dot).b, mostB M.b (T M.dot).a⟩ := by simp [newA, k3]
      have ho : oldA M (newA M (T M.dot) seq deps) = some true := by rw [hn]; simp [oldA, k3]
      rcases h' with ⟨o2, rfl⟩ | ⟨o2, _⟩
      · rw [ho] at o2; cases o2; exact ⟨rfl, hT⟩
      · rw [ho] at o2; cases o2
    · have hn : ∀ R s d, newA M R s d = { R with b := M.b } := fun R s d => by simp [newA, k1, k2, k3]
      have ho : oldA M (newA M (T M.dot) seq deps) = none := by rw [hn]; simp [oldA, k1, k3, cs, hst]
      rcases h' with ⟨o2, _⟩ | ⟨o2, rfl, s, d, _, rfl⟩
      · rw [ho] at o2; cases o2
      · refine ⟨rfl, ?_⟩
        simp only [updT, if_true]; rw [hn, hn]

set_option maxHeartbeats 1000000 in
theorem s_InstTwice (h : Nat → Option Obj) (v : Value) (L : List MA) (hv : MsgsIs h v L) :
    Ctr Try.prog F_rostrumlaw20_InstTwice [.raw v] [.heap h] (fun x H => x = bv true ∧ ∃ h', H = [.heap h'] ∧ Sub h h') := by
  obtain ⟨la, lc, rfl⟩ := hv.shape
  refine i_rostrumlaw20_InstTwice.spec follows ?_
  refine VCall.mk [0] (s_awake h) ⟨rfl, rfl, rfl⟩ ?_
  rintro _ _ ⟨rfl, h0, rfl, hs0⟩
  refine And.intro (fun h => absurd h (by simp)) (fun _ => ?_)
  refine VCall.mk [0] (s_light h0 _ L (hv.mono hs0)) ⟨rfl, rfl, rfl⟩ ?_
  rintro _ _ ⟨rfl, rfl⟩
  refine And.intro (fun hl => ?_) (fun hl => ?_)
  · exact VRet.mk [0] (bv true) [.heap h0] ⟨rfl, rfl, rfl⟩ ⟨rfl, h0, rfl, hs0⟩
  have hlight : lightB L = true := by simpa using hl
  have hL : L.length ≤ 40 := by
    simp only [lightB, Bool.and_eq_true, decide_eq_true_eq] at hlight
    exact hlight.1
  refine VCall.mk [] s_New ⟨rfl, rfl, rfl⟩ ?_
  rintro _ _ ⟨rfl, rfl⟩
  refine VLoop.mk HX (fun x => [(0, .raw (.slice la L.length lc)), (3, .ptr 1 0), (4, iv x.i)]) (fun x => [.heap x.h, tbl 2, rmap x.ms x.c])
    (fun x => x.i ≤ L.length ∧ Tab x.h x.ms x.c x.T (1099511627776 + 2 * x.i) ∧ Sub h x.h ∧ x.ms.length ≤ 2 * x.i) (fun x => L.length - x.i) ⟨0, [], 0, fun _ => zeroA, h0⟩ [0, 1, 2]
    ⟨⟨Nat.zero_le _, Tab.nil _ (by show (0 : Int) ≤ 1099511627776 + 2 * ((0 : Nat) : Int); decide), hs0, Nat.le_refl _⟩, rfl, rfl, rfl⟩ ?_
  rintro ⟨i, ms, c, T, h1⟩ ⟨hi, ht, hs, hml⟩ g
  simp only at hi ht hs hml
  refine And.intro (fun h2 => ?_) (fun h2 => ?_)
  · have h2 := of_decide_eq_true h2
    have hil : i < L.length := by simp only at h2; omega
    have hw : IntKind.i64.wrap ((i : Int) + 1) = ((i + 1 : Nat) : Int) := wrap64 (by omega)
    obtain ⟨bb, o, xs, e, fr, m, rfl, hh, hc, hm⟩ := (hv.mono hs).at hil
    have hc2 := cut_sub hc 1 2 (by omega)
    have hn : (0 : Int) ≤ (i : Int) ∧ (i : Int) < (L.length : Nat) := ⟨Int.natCast_nonneg i, by omega⟩
    have hdot : m.dot = L[i].dot := hm.dot
    refine And.intro hn ?_
    refine Exists.intro 0 (Exists.intro xs (Exists.intro e (Exists.intro fr (And.intro hh (Exists.intro _ (And.intro (by rw [Int.toNat_natCast]; exact hc) ?_))))))
    refine VCall.mk [1, 2, 0] (s_Do2 h1 ms c T _ ht (by omega) m L[i] hm) ⟨rfl, rfl, rfl⟩ ?_
    rintro _ _ ⟨ok1, e1, b1, r1, R1, T1, ms1, c1, h2', rfl, rfl, hs1, ht1, hr1, hD1, hl1⟩
    obtain ⟨ra1, rc1, hrc1⟩ := hr1.cmd.shape
    obtain ⟨rst1, rcmd1, rseq1, rdeps1, rb1, raa1⟩ := r1
    simp only at hrc1
    subst hrc1
    refine And.intro hn ?_
    refine Exists.intro 0 (Exists.intro xs (Exists.intro e (Exists.intro fr (And.intro (hs1 _ _ hh) (Exists.intro _ (And.intro (by rw [Int.toNat_natCast]; exact hc2) ?_))))))
    refine VCall.mk [1, 2, 0] (s_Rec h2' ms1 c1 T1 _ ht1 m.dot) ⟨rfl, rfl, rfl⟩ ?_
    rintro _ _ ⟨w, h3, rfl, hrw, rfl, hs2⟩
    obtain ⟨wa, wc, hwc⟩ := hrw.cmd.shape
    obtain ⟨wst, wcmd, wseq, wdeps, wb, waa⟩ := w
    simp only at hwc
    subst hwc
    refine And.intro hn ?_
    refine Exists.intro 0 (Exists.intro xs (Exists.intro e (Exists.intro fr (And.intro (hs2 _ _ (hs1 _ _ hh)) (Exists.intro _ (And.intro (by rw [Int.toNat_natCast]; exact hc) ?_))))))
    refine VCall.mk [1, 2, 0] (s_Do2 h3 ms1 c1 T1 _ (ht1.mono hs2) (by omega) m L[i] ((hm.mono hs1).mono hs2)) ⟨rfl, rfl, rfl⟩ ?_
    rintro _ _ ⟨ok2, e2, b2, r2, R2, T2, ms2, c2, h4, rfl, rfl, hs3, ht2, hr2, hD2, hl2⟩
    obtain ⟨ra2, rc2, hrc2⟩ := hr2.cmd.shape
    obtain ⟨rst2, rcmd2, rseq2, rdeps2, rb2, raa2⟩ := r2
    simp only at hrc2
    subst hrc2
    obtain ⟨rfl, rfl, hT⟩ := hD1.twice hD2
    refine And.intro (fun _ => ?_) (fun h => absurd h (by simp))
    refine And.intro (fun _ => ?_) (fun h => absurd h (by simp))
    refine And.intro hn ?_
    refine Exists.intro 0 (Exists.intro xs (Exists.intro e (Exists.intro fr (And.intro (hs3 _ _ (hs2 _ _ (hs1 _ _ hh))) (Exists.intro _ (And.intro (by rw [Int.toNat_natCast]; exact hc2) ?_))))))
    refine VCall.mk [1, 2, 0] (s_Rec h4 ms2 c2 T2 _ ht2 m.dot) ⟨rfl, rfl, rfl⟩ ?_
    rintro _ _ ⟨u, h5, rfl, hru, rfl, hs4⟩
    obtain ⟨ua, uc, huc⟩ := hru.cmd.shape
    obtain ⟨ust, ucmd, useq, udeps, ub, uaa⟩ := u
    simp only at huc
    subst huc
    refine And.intro rfl ?_
    refine VCall.mk [0] (s_Same h5 _ _ _ _ ((hrw.mono hs3).mono hs4) hru) ⟨rfl, rfl, rfl⟩ ?_
    rintro _ _ ⟨rfl, rfl⟩
    have hsame : sameR (T1 m.dot) (T2 m.dot) = true := by rw [hdot, hT]; exact sameR_refl _
    rw [hsame]
    refine And.intro (fun h => absurd h (by simp)) (fun _ => ?_)
    refine Exists.intro _ (And.intro hw ?_)
    exact Exists.intro ⟨i + 1, ms2, c2, T2, h5⟩ (Exists.intro [0, 1, 2] (And.intro ⟨⟨hil, (ht2.mono hs4).up (by simp only; omega), (((hs.trans hs1).trans hs2).trans hs3).trans hs4, by simp only; omega⟩, by simp only; omega⟩ ⟨rfl, rfl, rfl⟩))
  · exact VRet.mk [0] (bv true) [.heap h1] ⟨rfl, rfl, rfl⟩ ⟨rfl, h1, rfl, hs⟩
end Go.Proofs

namespace Go.Proofs.Ytlaanieheglnjaa
open Go.ChangeShapes Go.WideShapes Go.ChangeAt Go.RowKit Go.V Go.Joins
set_option maxRecDepth 100000

theorem instTwice_lifted (os : Os) (started : os.Started) (H : Type) (enc : TypeId × Value → H) :
    ReturnsInHanded {} Try.checked os 4 .any (Rows.instTwiceSpec.pre6 enc Try.prog Try.f4 Rows.instTwiceRow.domain false) (Rows.instTwiceSpec.post enc Try.prog Try.f4 false true false false) := by
  refine returnsInHanded_of_change (C := Try.checked) own started (by kernel_rfl) Try.func4
    (ChangeSpec.witness6 (enc := enc) (C := Try.checked) false ⟨#[], #[.slice none 0 0], []⟩ 8 (by kernel_rfl) (by kernel_rfl) (by kernel_rfl) (by kernel_rfl)) ?_
  intro W base args ds gs before hval0 hW hcnd _
  have hval : ∀ (j : Nat) t v, Try.f4.params[j]? = some t → args[j]? = some v → Value.okWide Try.prog W .any base t v := hval0
  have hW' := hW
  obtain ⟨p, q, hA0, hV, rfl, hfz, hnd⟩ := hW
  have hA : DataW.TrodAll enc Try.prog W 0 (fun _ => true) true Try.f4.params.toList args.toList ds p := hA0
  rw [Try.params4] at hA hval
  obtain ⟨v0, vs0, d0, ds0, p0, q0, hargs, rfl, rfl, h0, r0⟩ := trodAll_cons hA
  obtain ⟨rfl, rfl, rfl⟩ := trodAll_nil r0
  obtain rfl : args = #[v0] := by cases args; simp_all
  obtain ⟨rfl, rfl⟩ := trodVars_none hV
  have k0 := h0
  have lt0 : ∀ x ∈ p0, x.block < W.heap.size := by obtain ⟨m, hm⟩ := k0; exact DataW.trod_lt m _ _ _ hm
  obtain ⟨a0, len0, cap0, rfl⟩ := okWide_slice Try.underlying22 (hval 0 22 v0 rfl rfl)
  obtain ⟨m0, h0⟩ := h0
  obtain ⟨L0, hL0⟩ := open_msgs h0
  clear hA0 hval0
  refine Calls.mono (ctr_all (s_InstTwice (allH W) _ L0 hL0) rfl rfl (r := .bool true) ?_) fun e W' ⟨he, bel⟩ => ?_
  · rintro v H' ρ' ⟨rfl, h', rfl, hs⟩; exact ⟨rfl, h', rfl, hs⟩
  subst he
  exact ⟨_, rfl, _, _, _, [], _, [], hW', trodAll_mk1 (shut_bool Try.underlying4 _), (trodAll_cons_mk (Below.trod laidOut (by kernel_rfl) (of_decide_eq_true (by kernel_rfl)) k0 bel lt0) trodAll_mk0), rfl, bel.frame _, fun h => by cases h⟩

theorem instTwice_holds : Rows.InstTwiceSaid :=
  OpenClaim.holds_of_wide 4 Try.f4 rfl rfl rfl rfl rfl rfl rfl ⟨rfl, rfl, rfl, rfl, rfl⟩ rfl rfl rfl rfl rfl (by kernel_rfl) Try.func4 (by kernel_rfl)
    (of_decide_eq_true (by kernel_rfl)) (by unfold Func.isWrapper; first | (rw [if_pos (by decide +kernel)]; kernel_rfl) | (rw [if_neg (by decide +kernel)]; exact ⟨rfl, rfl⟩))
    (fun os started H enc _ => instTwice_lifted os started H enc)
end Go.Proofs.Ytlaanieheglnjaa

