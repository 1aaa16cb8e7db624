/- Part of the proof that the statement named in the last file holds: lemmas of the prover's own. No conditions. -/
import Derived.Test.YtlaanieheglnjaaEF
import Derived.Test.YtlaanieheglnjaaDC
namespace Go.Proofs
open Go Go.V
set_option maxRecDepth 100000
set_option linter.unusedVariables false

/-- What a table holds that was told of messages alone. -/
structure TInv (T : Int × Int → AR) : Prop where
  zero : ∀ d, (T d).st = 0 → T d = { zeroA with b := (T d).b }
  live : ∀ d, (T d).st ≠ 0 → dotB d = true ∧ (1 ≤ (T d).st ∧ (T d).st ≤ 3) ∧ depB (T d).deps = true ∧ 0 ≤ (T d).seq ∧ (T d).cmd.length ≤ 300
  good : ∀ d, goodB (T d).b = true ∧ goodB (T d).a = true
theorem TInv.nil : TInv (fun _ => zeroA) := ⟨fun _ _ => rfl, fun _ h => absurd rfl h, fun _ => ⟨rfl, rfl⟩⟩
theorem mostB_good {a b : Int × Int} (ha : goodB a = true) (hb : goodB b = true) : goodB (mostB a b) = true := by
  unfold mostB; split <;> assumption
theorem TInv.ok {T : Int × Int → AR} (h : TInv T) {d : Int × Int} (hd : (T d).st ≠ 0) (hs : (T d).seq ≤ 1099511627776) : okR d (T d) = true := by
  obtain ⟨h1, h2, h3, h4, h5⟩ := h.live d hd
  obtain ⟨h6, h7⟩ := h.good d
  have h8 : contentB (T d).cmd.length (T d).seq (T d).deps = true := by
    simp only [contentB, Bool.and_eq_true, decide_eq_true_eq]; exact ⟨h3, h4, hs, by omega⟩
  simp only [okR, h1, h6, h7, h8, Bool.and_true, Bool.true_and, Bool.and_eq_true, Bool.not_eq_true', decide_eq_false_iff_not]
  omega
theorem dotB_iff {d : Int × Int} (h : dotB d = true) : (0 ≤ d.1 ∧ d.1 < 7) ∧ 1 ≤ d.2 ∧ d.2 ≤ 1000 := by
  simp only [dotB, isRep, Bool.and_eq_true, decide_eq_true_eq] at h
  omega
theorem DoR.inv {T T' : Int × Int → AR} {M : MA} {ok : Bool} {e : Int} {b : Int × Int} {R : AR} (h : DoR T M ok e b R T') (hT : TInv T) : TInv T' := by
  rcases h with ⟨_, _, _, _, _, rfl⟩ | ⟨hm, _, _, _, ⟨_, rfl⟩ | ⟨_, _, seq, deps, hW, rfl⟩⟩
  · exact hT
  · exact hT
  obtain ⟨hk, hdot, hgood, hdep, hseq, hlen, hprep⟩ := mayA_iff hm
  obtain ⟨hgb, hga⟩ := hT.good M.dot
  have key : ∀ R : AR, (R.st = 0 → R = { zeroA with b := R.b }) → (R.st ≠ 0 → (1 ≤ R.st ∧ R.st ≤ 3) ∧ depB R.deps = true ∧ 0 ≤ R.seq ∧ R.cmd.length ≤ 300) → goodB R.b = true → goodB R.a = true → TInv (updT T M.dot R) := by
    intro R r1 r2 r3 r4
    refine ⟨fun d hd => ?_, fun d hd => ?_, fun d => ?_⟩
    · by_cases e : d = M.dot
      · simp only [updT, if_pos e] at hd ⊢; exact r1 hd
      · simp only [updT, if_neg e] at hd ⊢; exact hT.zero d hd
    · by_cases e : d = M.dot
      · simp only [updT, if_pos e] at hd ⊢; exact ⟨by rw [e]; exact hdot, r2 hd⟩
      · simp only [updT, if_neg e] at hd ⊢; exact hT.live d hd
    · by_cases e : d = M.dot
      · simp only [updT, if_pos e]; exact ⟨r3, r4⟩
      · simp only [updT, if_neg e]; exact hT.good d
  have hdB : depB M.deps = true := depB_iff.2 hdep
  by_cases k1 : M.kind = 1
  · rw [show newA M (T M.dot) seq deps = ⟨1, M.cmd, if seq > M.seq then seq else M.seq, vmax M.deps deps, M.b, M.b⟩ from if_pos k1]
    refine key _ (fun h => by simp at h) (fun _ => ⟨by simp, ?_, ?_, hlen⟩) hgood hgood
    · rw [depB_iff]
      intro i hi
      have h0 := hdep i hi
      simp only [vmax]
      rcases (hW k1).dep i hi with h1 | ⟨o, _, h2, _, h3⟩
      · split <;> omega
      · have := (dotB_iff (hT.live o h2).1).2
        split <;> omega
    · simp only; split <;> omega
  by_cases k2 : M.kind = 2
  · rw [show newA M (T M.dot) seq deps = ⟨2, M.cmd, M.seq, M.deps, M.b, M.b⟩ by simp [newA, k2]]
    exact key _ (fun h => by simp at h) (fun _ => ⟨by simp, hdB, hseq.1, hlen⟩) hgood hgood
  by_cases k3 : M.kind = 3
  · rw [show newA M (T M.dot) seq deps = ⟨3, M.cmd, M.seq, M.deps, mostB M.b (T M.dot).b, mostB M.b (T M.dot).a⟩ by simp [newA, k3]]
    exact key _ (fun h => by simp at h) (fun _ => ⟨by simp, hdB, hseq.1, hlen⟩) (mostB_good hgood hgb) (mostB_good hgood hga)
  · rw [show newA M (T M.dot) seq deps = { T M.dot with b := M.b } by simp [newA, k1, k2, k3]]
    refine key _ (fun h => ?_) (fun h => (hT.live M.dot h).2) hgood hga
    have h9 := hT.zero M.dot h
    simp only
    rw [h9]

/-- Two tables of which the same is known. -/
def Alike (T U : Int × Int → AR) : Prop := ∀ d, ((T d).st ≠ 0 ∨ (U d).st ≠ 0) → T d = U d
theorem Alike.symm {T U : Int × Int → AR} (h : Alike T U) : Alike U T := fun d hd => (h d hd.symm).symm
theorem known_le {T U : Int × Int → AR} (h : Alike T U) {v w : Nat → Int} (hv : IsKnown T v) (hw : IsKnown U w) {i : Nat} (hi : i < 7) : v i ≤ w i := by
  rcases hv.is i hi with h1 | ⟨o, h1, h2, h3⟩
  · have := hw.lo i; omega
  · have h4 := hw.ge o (by rw [← h o (.inl h1)]; exact h1)
    rw [h2, Int.toNat_natCast] at h4
    omega
theorem known_eq {T U : Int × Int → AR} (h : Alike T U) {v w : Nat → Int} (hv : IsKnown T v) (hw : IsKnown U w) : eqDep v w = true :=
  eqDep_iff.2 fun i hi => Int.le_antisymm (known_le h hv hw hi) (known_le h.symm hw hv hi)
theorem top_le {T U : Int × Int → AR} (h : Alike T U) {n m : Int} (hn : IsTop T n) (hm : IsTop U m) : n ≤ m := by
  rcases hn.is with h1 | ⟨o, h1, h2⟩
  · have := hm.lo; omega
  · have h3 := h o (.inl h1)
    have h4 := hm.ge o (by rw [← h3]; exact h1)
    rw [← h3] at h4; omega
theorem top_eq {T U : Int × Int → AR} (h : Alike T U) {n m : Int} (hn : IsTop T n) (hm : IsTop U m) : n = m := Int.le_antisymm (top_le h hn hm) (top_le h.symm hm hn)
theorem would_le {T U : Int × Int → AR} (h : Alike T U) {d : Int × Int} {s s' : Int} {p p' : Nat → Int} (hT : ∀ o, (T o).st ≠ 0 → dotB o = true) (h1 : IsWould T d s p) (h2 : IsWould U d s' p') : s ≤ s' ∧ ∀ i, i < 7 → p i ≤ p' i := by
  have hlo : ∀ i, i < 7 → 0 ≤ p' i := by
    intro i hi
    rcases h2.dep i hi with h3 | ⟨o, h3, h4, h5, h6⟩
    · omega
    · have h7 := h o (.inr h4)
      have := (dotB_iff (hT o (by rw [h7]; exact h4))).2
      omega
  refine ⟨?_, fun i hi => ?_⟩
  · rcases h1.is with h3 | ⟨o, h3, h4, h5⟩
    · have := h2.lo; omega
    · have h6 := h o (.inl h4)
      have h7 := (h2.ge o h3 (by rw [← h6]; exact h4)).1
      rw [← h6] at h7; omega
  · rcases h1.dep i hi with h3 | ⟨o, h3, h4, h5, h6⟩
    · have := hlo i hi; omega
    · have h7 := (h2.ge o h3 (by rw [← h o (.inl h4)]; exact h4)).2
      rw [h5, Int.toNat_natCast] at h7; omega
theorem DoR.alike {T U T1 U1 : Int × Int → AR} (h : Alike T U) (hT : TInv T) {M : MA} {ok ok' : Bool} {e e' : Int} {b b' : Int × Int} {R R' : AR} (hd : T M.dot = U M.dot) (h1 : DoR T M ok e b R T1) (h2 : DoR U M ok' e' b' R' U1) :
    e = e' ∧ ok = ok' ∧ b = b' ∧ sameR R R' = true ∧ sameR (T1 M.dot) (U1 M.dot) = true := by
  rcases h1 with ⟨m1, rfl, rfl, rfl, rfl, rfl⟩ | ⟨m1, rfl, rfl, rfl, h1⟩ <;> rcases h2 with ⟨m2, rfl, rfl, rfl, rfl, rfl⟩ | ⟨m2, rfl, rfl, rfl, h2⟩
  · exact ⟨rfl, rfl, rfl, sameR_refl _, by rw [hd]; exact sameR_refl _⟩
  · rw [m1] at m2; cases m2
  · rw [m1] at m2; cases m2
  rcases h1 with ⟨o1, rfl⟩ | ⟨o1, rfl, seq, deps, hW, rfl⟩ <;> rcases h2 with ⟨o2, rfl⟩ | ⟨o2, rfl, seq', deps', hW', rfl⟩
  · rw [hd, o2] at o1; cases o1; rw [hd]; exact ⟨rfl, rfl, rfl, sameR_refl _, sameR_refl _⟩
  · rw [hd, o2] at o1; cases o1
  · rw [hd, o2] at o1; cases o1
  have hA : updT T M.dot (newA M (T M.dot) seq deps) M.dot = newA M (T M.dot) seq deps := if_pos rfl
  have hB : updT U M.dot (newA M (U M.dot) seq' deps') M.dot = newA M (U M.dot) seq' deps' := if_pos rfl
  rw [hA, hB, hd]
  have key : (newA M (U M.dot) seq deps).b = (newA M (U M.dot) seq' deps').b ∧ sameR (newA M (U M.dot) seq deps) (newA M (U M.dot) seq' deps') = true := by
    by_cases k1 : M.kind = 1
    · have hl : ∀ o, (T o).st ≠ 0 → dotB o = true := fun o ho => (hT.live o ho).1
      have hu : ∀ o, (U o).st ≠ 0 → dotB o = true := fun o ho => hl o (by rw [h o (.inr ho)]; exact ho)
      obtain ⟨a1, a2⟩ := would_le h hl (hW k1) (hW' k1)
      obtain ⟨b1, b2⟩ := would_le h.symm hu (hW' k1) (hW k1)
      have es : seq = seq' := by omega
      have ed : ∀ i, i < 7 → deps i = deps' i := fun i hi => Int.le_antisymm (a2 i hi) (b2 i hi)
      have hn : ∀ s d, newA M (U M.dot) s d = ⟨1, M.cmd, if s > M.seq then s else M.seq, vmax M.deps d, M.b, M.b⟩ := fun s d => if_pos k1
      rw [hn, hn, es]
      refine ⟨rfl, ?_⟩
      have h9 : eqDep (vmax M.deps deps) (vmax M.deps deps') = true := eqDep_iff.2 fun i hi => by simp only [vmax]; rw [ed i hi]
      have h8 : eqB M.b M.b = true := eqB_iff.2 rfl
      simp [sameR, h9, h8]
    · have hn : newA M (U M.dot) seq deps = newA M (U M.dot) seq' deps' := by simp [newA, k1]
      rw [hn]; exact ⟨rfl, sameR_refl _⟩
  exact ⟨rfl, rfl, key.1, key.2, key.2⟩
end Go.Proofs

namespace Go.Proofs
open Go Go.V
set_option maxRecDepth 100000
set_option linter.unusedVariables false

structure LX where
  j : Nat
  ms : RM
  c : Nat
  U : Int × Int → AR
  h : Nat → Option Obj
set_option maxHeartbeats 4000000 in
theorem s_InstLoad (h : Nat → Option Obj) (v : Value) (L : List MA) (hv : MsgsIs h v L) (m : MsgV) (M : MA) (hm : MIs h m M) :
    Ctr Try.prog F_rostrumlaw20_InstLoad [.raw v, .agg (mcells m)] [.heap h] (fun x H => x = bv true ∧ ∃ h', H = [.heap h'] ∧ Sub h h') := by
  obtain ⟨la, lc, rfl⟩ := hv.shape
  obtain ⟨ma, mc, hmc⟩ := hm.cmd.shape
  have hm0 := hm
  obtain ⟨mk, md, mb, mcmd, mseq, mdeps⟩ := m
  obtain ⟨e1, e2, e3, e4, e5, e6⟩ := hm
  simp only at e1 e2 e3 e4 e5 e6 hmc
  subst hmc e1 e2 e3 e5 e6
  refine i_rostrumlaw20_InstLoad.spec follows ?_
  refine VCall.mk [0] (s_awake h) ⟨rfl, rfl, rfl⟩ ?_
  rintro _ _ ⟨rfl, h0, rfl, hs0⟩
  refine And.intro (fun h => absurd h (by simp)) (fun _ => ?_)
  refine VCall.mk [0] (s_light h0 _ L (hv.mono hs0)) ⟨rfl, rfl, rfl⟩ ?_
  rintro _ _ ⟨rfl, rfl⟩
  refine And.intro (fun hl => ?_) (fun hl => ?_)
  rotate_left 1
  · exact VRet.mk [0] (bv true) [.heap h0] ⟨rfl, rfl, rfl⟩ ⟨rfl, h0, rfl, hs0⟩
  have hlight : lightB L = true := by simpa using hl
  have hL : L.length ≤ 40 := by
    simp only [lightB, Bool.and_eq_true, decide_eq_true_eq] at hlight
    exact hlight.1
  refine And.intro (fun hl2 => ?_) (fun hl2 => ?_)
  · exact VRet.mk [0] (bv true) [.heap h0] ⟨rfl, rfl, rfl⟩ ⟨rfl, h0, rfl, hs0⟩
  refine VCall.mk [] s_New ⟨rfl, rfl, rfl⟩ ?_
  rintro _ _ ⟨rfl, rfl⟩
  refine VCall.mk [] s_New ⟨rfl, rfl, rfl⟩ ?_
  rintro _ _ ⟨rfl, rfl⟩
  refine VLoop.mk HX (fun x => [(0, .raw (.slice la L.length lc)), (3, .ptr 1 0), (5, .ptr 2 0), (6, .ptr 4 0), (7, iv x.i)]) (fun x => [.heap x.h, .cells (mcells ⟨M.kind, M.dot, M.b, .slice ma M.cmd.length mc, M.seq, M.deps⟩) 35, tbl 3, rmap x.ms x.c, tbl 5, rmap [] 0])
    (fun x => x.i ≤ L.length ∧ Tab x.h x.ms x.c x.T (1099511627776 + x.i) ∧ Sub h x.h ∧ x.ms.length ≤ x.i ∧ TInv x.T) (fun x => L.length - x.i) ⟨0, [], 0, fun _ => zeroA, h0⟩ [0, 1, 2, 3, 4, 5]
    ⟨⟨Nat.zero_le _, Tab.nil _ (by show (0 : Int) ≤ 1099511627776 + ((0 : Nat) : Int); decide), hs0, Nat.le_refl _, TInv.nil⟩, rfl, rfl, rfl⟩ ?_
  rintro ⟨i, ms, c, T, h1⟩ ⟨hi, ht, hs, hml, hat⟩ g
  simp only at hi ht hs hml hat
  refine And.intro (fun h2 => ?_) (fun h2 => ?_)
  · have h2 := of_decide_eq_true h2
    have hil : i < L.length := by simp only at h2; omega
    have hw : IntKind.i64.wrap ((i : Int) + 1) = ((i + 1 : Nat) : Int) := wrap64 (by omega)
    obtain ⟨bb, o, xs, e, fr, m, rfl, hh, hc, hm⟩ := (hv.mono hs).at hil
    have hn : (0 : Int) ≤ (i : Int) ∧ (i : Int) < (L.length : Nat) := ⟨Int.natCast_nonneg i, by omega⟩
    refine And.intro hn ?_
    refine Exists.intro 0 (Exists.intro xs (Exists.intro e (Exists.intro fr (And.intro hh (Exists.intro _ (And.intro (by rw [Int.toNat_natCast]; exact hc) ?_))))))
    refine VCall.mk [2, 3, 0] (s_Do2 h1 ms c T _ ht (by omega) m L[i] hm) ⟨rfl, rfl, rfl⟩ ?_
    rintro _ _ ⟨ok1, e1, b1, r1, R1, T1, ms1, c1, h2', rfl, rfl, hs1, ht1, hr1, hD1, hl1⟩
    refine Exists.intro _ (And.intro hw ?_)
    exact Exists.intro ⟨i + 1, ms1, c1, T1, h2'⟩ (Exists.intro [0, 1, 2, 3, 4, 5] (And.intro ⟨⟨hil, ht1.up (by simp only; omega), hs.trans hs1, by simp only; omega, hD1.inv hat⟩, by simp only; omega⟩ ⟨rfl, rfl, rfl⟩))
  have h2 := of_decide_eq_false h2
  have hiL : i = L.length := by simp only at h2; omega
  subst hiL
  refine VCall.mk [2, 3] (s_All h1 ms c T _ ht (by omega)) ⟨rfl, rfl, rfl⟩ ?_
  rintro _ _ ⟨d, o, c', ys, rfl, rfl, hA, hr, hdl⟩
  have hcl : ∀ x, (dcl x).length = 2 := fun _ => rfl
  refine VLoop.mk LX (fun x => [(0, .raw (.slice la L.length lc)), (3, .ptr 1 0), (5, .ptr 2 0), (6, .ptr 4 0), (8, .sl 6 o d.length c'), (9, iv x.j)]) (fun x => [.heap x.h, .cells (mcells ⟨M.kind, M.dot, M.b, .slice ma M.cmd.length mc, M.seq, M.deps⟩) 35, tbl 3, rmap ms c, tbl 5, rmap x.ms x.c, .arr ys T_api_Dot])
    (fun x => x.j ≤ d.length ∧ Tab x.h x.ms x.c x.U 1099511627776 ∧ Sub h1 x.h ∧ x.ms.length ≤ x.j ∧ ∀ p, x.U p = if p ∈ d.take x.j then T p else zeroA) (fun x => d.length - x.j) ⟨0, [], 0, fun _ => zeroA, h1⟩ [0, 1, 2, 3, 4, 5, 6]
    ⟨⟨Nat.zero_le _, Tab.nil _ (by decide), Sub.refl _, Nat.le_refl _, fun p => by simp⟩, rfl, rfl, rfl⟩ ?_
  rintro ⟨j, mu, cu, U, h3⟩ ⟨hj, hu, hs3, hmu, hU⟩ g2
  simp only at hj hu hs3 hmu hU
  have hroom : o + d.length * 2 ≤ ys.length := by have := hr.2.1; have := Nat.mul_le_mul_right 2 hr.1; omega
  refine And.intro (fun h4 => ?_) (fun h4 => ?_)
  · have h4 := of_decide_eq_true h4
    have hjl : j < d.length := by simp only at h4; omega
    have hw : IntKind.i64.wrap ((j : Int) + 1) = ((j + 1 : Nat) : Int) := wrap64 (by omega)
    have hc := hr.cut hcl hjl
    have hn : (0 : Int) ≤ (j : Int) ∧ (j : Int) < (d.length : Nat) := ⟨Int.natCast_nonneg j, by omega⟩
    have hmem : d[j] ∈ d := List.getElem_mem hjl
    have hst := (hA.mem d[j]).1 hmem
    refine And.intro ⟨hn.1, hn.2, hroom⟩ (Exists.intro _ (And.intro (by rw [Int.toNat_natCast]; exact hc) ?_))
    refine VCall.mk [2, 3, 0] (s_Rec h3 ms c T _ (ht.mono hs3) d[j]) ⟨rfl, rfl, rfl⟩ ?_
    rintro _ _ ⟨r, h5, rfl, hr5, rfl, hs5⟩
    obtain ⟨ra, rc, hrc⟩ := hr5.cmd.shape
    have hr0 := hr5
    obtain ⟨rst, rcmd, rseq, rdeps, rb, raa⟩ := r
    obtain ⟨f1, _, f3, f4, f5, f6⟩ := hr5
    simp only at hrc f1 f3 f4 f5 f6
    subst hrc f1 f3 f4 f5 f6
    refine And.intro (fun h6 => ?_) (fun h6 => ?_)
    · exact VRet.mk [0] (bv true) [.heap h5] ⟨rfl, rfl, rfl⟩ ⟨rfl, h5, rfl, (hs.trans hs3).trans hs5⟩
    have h6 : ¬ (T d[j]).seq > 1099511627776 := of_decide_eq_false h6
    refine And.intro ⟨hn.1, hn.2, hroom⟩ (Exists.intro _ (And.intro (by rw [Int.toNat_natCast]; exact hc) ?_))
    refine VCall.mk [4, 5, 0] (s_Load h5 mu cu U _ (hu.mono hs5) (by omega) d[j] _ (T d[j]) hr0) ⟨rfl, rfl, rfl⟩ ?_
    have hok := hat.ok hst (by omega)
    rintro _ _ (⟨hk, _⟩ | ⟨_, mu1, cu1, h7, rfl, rfl, hs7, hu1, hml1⟩)
    · rw [hok] at hk; cases hk
    refine And.intro (fun h => absurd h (by simp)) (fun _ => ?_)
    refine Exists.intro _ (And.intro hw ?_)
    refine Exists.intro ⟨j + 1, mu1, cu1, updT U d[j] (T d[j]), h7⟩ (Exists.intro [0, 1, 2, 3, 4, 5, 6] (And.intro ⟨⟨hjl, hu1, (hs3.trans hs5).trans hs7, by simp only; omega, fun p => ?_⟩, by simp only; omega⟩ ⟨rfl, rfl, rfl⟩))
    have hm2 : p ∈ d.take (j + 1) ↔ p ∈ d.take j ∨ p = d[j] := by rw [← List.take_append_getElem hjl, List.mem_append, List.mem_singleton]
    simp only
    by_cases e : p = d[j]
    · rw [if_pos (hm2.2 (.inr e))]; simp [updT, e]
    · by_cases e2 : p ∈ d.take j
      · rw [if_pos (hm2.2 (.inl e2))]; simp only [updT, if_neg e]; rw [hU, if_pos e2]
      · rw [if_neg (fun h => (hm2.1 h).elim e2 e)]; simp only [updT, if_neg e]; rw [hU, if_neg e2]
  have h4 := of_decide_eq_false h4
  have hjd : j = d.length := by simp only at h4; omega
  subst hjd
  rw [List.take_length] at hU
  have hal : Alike T U := by
    intro p hp
    rw [hU p] at hp ⊢
    by_cases e : p ∈ d
    · rw [if_pos e]
    · rw [if_neg e] at hp
      rcases hp with hp | hp
      · exact absurd ((hA.mem p).2 hp) e
      · exact absurd rfl hp
  have hmu2 : mu.length ≤ 1000000 := by omega
  refine VCall.mk [2, 3] (s_Known h3 ms c T _ (ht.mono hs3) (by omega)) ⟨rfl, rfl, rfl⟩ ?_
  rintro _ _ ⟨v1, rfl, rfl, hv1⟩
  refine VCall.mk [4, 5] (s_Known h3 mu cu U _ hu hmu2) ⟨rfl, rfl, rfl⟩ ?_
  rintro _ _ ⟨w1, rfl, rfl, hw1⟩
  have hkn := known_eq hal hv1 hw1
  refine And.intro (fun _ => ?_) (fun h => absurd (show (!eqDep v1 w1) = true from h) (by rw [hkn]; simp))
  refine VCall.mk [2, 3] (s_Top h3 ms c T _ (ht.mono hs3) (by omega)) ⟨rfl, rfl, rfl⟩ ?_
  rintro _ _ ⟨n1, rfl, rfl, hn1⟩
  refine VCall.mk [4, 5] (s_Top h3 mu cu U _ hu hmu2) ⟨rfl, rfl, rfl⟩ ?_
  rintro _ _ ⟨n2, rfl, rfl, hn2⟩
  have htop := top_eq hal hn1 hn2
  subst htop
  refine And.intro (fun _ => ?_) (fun h => absurd h (by simp))
  refine VCall.mk [2, 3, 0] (s_Rec h3 ms c T _ (ht.mono hs3) M.dot) ⟨rfl, rfl, rfl⟩ ?_
  rintro _ _ ⟨r, h5, rfl, hr5, rfl, hs5⟩
  obtain ⟨ra, rc, hrc⟩ := hr5.cmd.shape
  obtain ⟨rst, rcmd, rseq, rdeps, rb, raa⟩ := r
  obtain ⟨f1, _, f3, f4, f5, f6⟩ := hr5
  simp only at hrc f1 f3 f4 f5 f6
  subst hrc f1 f3 f4 f5 f6
  refine And.intro (fun h6 => ?_) (fun h6 => ?_)
  · have h6 : (T M.dot).st = 0 := of_decide_eq_true h6
    refine VCall.mk [2, 3, 0] (s_Rec h5 ms c T _ ((ht.mono hs3).mono hs5) M.dot) ⟨rfl, rfl, rfl⟩ ?_
    rintro _ _ ⟨r, h7, rfl, hr7, rfl, hs7⟩
    obtain ⟨sa, sc, hsc⟩ := hr7.cmd.shape
    obtain ⟨sst, scmd, sseq, sdeps, sb, saa⟩ := r
    obtain ⟨f1, _, f3, f4, f5, f6⟩ := hr7
    simp only at hsc f1 f3 f4 f5 f6
    subst hsc f1 f3 f4 f5 f6
    refine And.intro rfl ?_
    refine VCall.mk [4, 5, 0] (s_Rec h7 mu cu U _ ((hu.mono hs5).mono hs7) M.dot) ⟨rfl, rfl, rfl⟩ ?_
    rintro _ _ ⟨r, h8, rfl, hr8, rfl, hs8⟩
    obtain ⟨wa, wc, hwc⟩ := hr8.cmd.shape
    obtain ⟨wst, wcmd, wseq, wdeps, wb, waa⟩ := r
    obtain ⟨f1, _, f3, f4, f5, f6⟩ := hr8
    simp only at hwc f1 f3 f4 f5 f6
    subst hwc f1 f3 f4 f5 f6
    refine And.intro (fun h9 => ?_) (fun h9 => ?_)
    · refine VCall.mk [2, 3, 0] (s_Rec h8 ms c T _ ((((ht.mono hs3).mono hs5).mono hs7).mono hs8) M.dot) ⟨rfl, rfl, rfl⟩ ?_
      rintro _ _ ⟨r, h10, rfl, hr10, rfl, hs10⟩
      obtain ⟨xa, xc, hxc⟩ := hr10.cmd.shape
      obtain ⟨xst, xcmd, xseq, xdeps, xb, xaa⟩ := r
      obtain ⟨f1, _, f3, f4, f5, f6⟩ := hr10
      simp only at hxc f1 f3 f4 f5 f6
      subst hxc f1 f3 f4 f5 f6
      refine And.intro (fun _ => ?_) (fun h => absurd h6 (of_decide_eq_false h))
      refine VCall.mk [2, 3] (s_Known h10 ms c T _ (((((ht.mono hs3).mono hs5).mono hs7).mono hs8).mono hs10) (by omega)) ⟨rfl, rfl, rfl⟩ ?_
      rintro _ _ ⟨v2, rfl, rfl, hv2⟩
      refine VCall.mk [4, 5] (s_Known h10 mu cu U _ ((((hu.mono hs5).mono hs7).mono hs8).mono hs10) hmu2) ⟨rfl, rfl, rfl⟩ ?_
      rintro _ _ ⟨w2, rfl, rfl, hw2⟩
      refine VRet.mk [0] (bv (eqDep v2 w2)) [.heap h10] ⟨rfl, rfl, rfl⟩ ⟨by rw [known_eq hal hv2 hw2], h10, rfl, ((((hs.trans hs3).trans hs5).trans hs7).trans hs8).trans hs10⟩
    · have h9 : (!eqB (T M.dot).b (U M.dot).b) = false := h9
      have hd : T M.dot = U M.dot := by
        by_cases e : (U M.dot).st = 0
        · have e2 : U M.dot = zeroA := by
            rw [hU]
            exact if_neg fun hh => (hA.mem M.dot).1 hh h6
          have e3 : (T M.dot).b = (U M.dot).b := eqB_iff.1 (by simpa using h9)
          rw [hat.zero _ h6, e3, e2]
        · exact hal _ (.inr e)
      have hsq := (hs5.trans hs7).trans hs8
      have htq := (ht.mono hs3).mono hsq
      have huq := hu.mono hsq
      have hmq : MIs h8 ⟨M.kind, M.dot, M.b, .slice ma M.cmd.length mc, M.seq, M.deps⟩ M := ((hm0.mono hs).mono hs3).mono hsq
      refine VCall.mk [2, 3, 0] (s_Do2 h8 ms c T _ htq (by omega) _ M hmq) ⟨rfl, rfl, rfl⟩ ?_
      rintro _ _ ⟨ok1, er1, b1, r1, R1, T1, ms1, c1, p1, rfl, rfl, gs1, ht1, hr1, hD1, hl1⟩
      obtain ⟨ya, yc, hyc⟩ := hr1.cmd.shape
      have hr1' := hr1
      obtain ⟨yst, ycmd, yseq, ydeps, yb, yaa⟩ := r1
      obtain ⟨f1, _, f3, f4, f5, f6⟩ := hr1
      simp only at hyc f1 f3 f4 f5 f6
      subst hyc f1 f3 f4 f5 f6
      refine VCall.mk [4, 5, 0] (s_Do2 p1 mu cu U _ (huq.mono gs1) (by omega) _ M (hmq.mono gs1)) ⟨rfl, rfl, rfl⟩ ?_
      rintro _ _ ⟨ok2, er2, b2, r2, R2, U2, ms2, c2, p2, rfl, rfl, gs2, ht2, hr2, hD2, hl2⟩
      obtain ⟨za, zc, hzc⟩ := hr2.cmd.shape
      have hr2' := hr2
      obtain ⟨zst, zcmd, zseq, zdeps, zb, zaa⟩ := r2
      obtain ⟨f1, _, f3, f4, f5, f6⟩ := hr2
      simp only at hzc f1 f3 f4 f5 f6
      subst hzc f1 f3 f4 f5 f6
      obtain ⟨re, rok, rb, rR, rS⟩ := hD1.alike hal hat hd hD2
      subst re rok rb
      refine And.intro (fun _ => ?_) (fun h => absurd h (by simp))
      refine VCall.mk [] (s_ans ok1 b1 _ ya R1.cmd.length yc rfl) ⟨rfl, rfl, rfl⟩ ?_
      rintro _ _ ⟨rfl, rfl⟩
      refine And.intro rfl ?_
      refine VCall.mk [] (s_ans ok1 b1 _ za R2.cmd.length zc rfl) ⟨rfl, rfl, rfl⟩ ?_
      rintro _ _ ⟨rfl, rfl⟩
      refine VCall.mk [0] (s_sameAns p2 ok1 ok1 b1 b1 _ _ R1 R2 (hr1'.mono gs2) hr2') ⟨rfl, rfl, rfl⟩ ?_
      rintro _ _ ⟨rfl, rfl⟩
      have hall : ((ok1 == ok1) && (eqB b1 b1 && sameR R1 R2)) = true := by rw [rR, eqB_iff.2 rfl]; simp
      refine And.intro (fun _ => ?_) (fun h => absurd h (by rw [hall]; simp))
      refine VCall.mk [2, 3, 0] (s_Rec p2 ms1 c1 T1 _ (ht1.mono gs2) M.dot) ⟨rfl, rfl, rfl⟩ ?_
      rintro _ _ ⟨r, p3, rfl, gr3, rfl, gs3⟩
      obtain ⟨xa, xc, hxc⟩ := gr3.cmd.shape
      have gr3' := gr3
      obtain ⟨xst, xcmd, xseq, xdeps, xb, xaa⟩ := r
      obtain ⟨f1, _, f3, f4, f5, f6⟩ := gr3
      simp only at hxc f1 f3 f4 f5 f6
      subst hxc f1 f3 f4 f5 f6
      refine And.intro rfl ?_
      refine VCall.mk [4, 5, 0] (s_Rec p3 ms2 c2 U2 _ (ht2.mono gs3) M.dot) ⟨rfl, rfl, rfl⟩ ?_
      rintro _ _ ⟨r, p4, rfl, gr4, rfl, gs4⟩
      obtain ⟨ka, kc, hkc⟩ := gr4.cmd.shape
      have gr4' := gr4
      obtain ⟨kst, kcmd, kseq, kdeps, kb, kaa⟩ := r
      obtain ⟨f1, _, f3, f4, f5, f6⟩ := gr4
      simp only at hkc f1 f3 f4 f5 f6
      subst hkc f1 f3 f4 f5 f6
      refine VCall.mk [0] (s_Same p4 _ _ _ _ (gr3'.mono gs4) gr4') ⟨rfl, rfl, rfl⟩ ?_
      rintro _ _ ⟨rfl, rfl⟩
      exact VRet.mk [0] (bv (sameR (T1 M.dot) (U2 M.dot))) [.heap p4] ⟨rfl, rfl, rfl⟩ ⟨by rw [rS], p4, rfl, (((((hs.trans hs3).trans hsq).trans gs1).trans gs2).trans gs3).trans gs4⟩
  · have h6 : (T M.dot).st ≠ 0 := of_decide_eq_false h6
    have hd : T M.dot = U M.dot := hal _ (.inl h6)
    have hsq := hs5
    refine And.intro rfl ?_
    have htq := (ht.mono hs3).mono hsq
    have huq := hu.mono hsq
    have hmq : MIs h5 ⟨M.kind, M.dot, M.b, .slice ma M.cmd.length mc, M.seq, M.deps⟩ M := ((hm0.mono hs).mono hs3).mono hsq
    refine VCall.mk [2, 3, 0] (s_Do2 h5 ms c T _ htq (by omega) _ M hmq) ⟨rfl, rfl, rfl⟩ ?_
    rintro _ _ ⟨ok1, er1, b1, r1, R1, T1, ms1, c1, p1, rfl, rfl, gs1, ht1, hr1, hD1, hl1⟩
    obtain ⟨ya, yc, hyc⟩ := hr1.cmd.shape
    have hr1' := hr1
    obtain ⟨yst, ycmd, yseq, ydeps, yb, yaa⟩ := r1
    obtain ⟨f1, _, f3, f4, f5, f6⟩ := hr1
    simp only at hyc f1 f3 f4 f5 f6
    subst hyc f1 f3 f4 f5 f6
    refine VCall.mk [4, 5, 0] (s_Do2 p1 mu cu U _ (huq.mono gs1) (by omega) _ M (hmq.mono gs1)) ⟨rfl, rfl, rfl⟩ ?_
    rintro _ _ ⟨ok2, er2, b2, r2, R2, U2, ms2, c2, p2, rfl, rfl, gs2, ht2, hr2, hD2, hl2⟩
    obtain ⟨za, zc, hzc⟩ := hr2.cmd.shape
    have hr2' := hr2
    obtain ⟨zst, zcmd, zseq, zdeps, zb, zaa⟩ := r2
    obtain ⟨f1, _, f3, f4, f5, f6⟩ := hr2
    simp only at hzc f1 f3 f4 f5 f6
    subst hzc f1 f3 f4 f5 f6
    obtain ⟨re, rok, rb, rR, rS⟩ := hD1.alike hal hat hd hD2
    subst re rok rb
    refine And.intro (fun _ => ?_) (fun h => absurd h (by simp))
    refine VCall.mk [] (s_ans ok1 b1 _ ya R1.cmd.length yc rfl) ⟨rfl, rfl, rfl⟩ ?_
    rintro _ _ ⟨rfl, rfl⟩
    refine And.intro rfl ?_
    refine VCall.mk [] (s_ans ok1 b1 _ za R2.cmd.length zc rfl) ⟨rfl, rfl, rfl⟩ ?_
    rintro _ _ ⟨rfl, rfl⟩
    refine VCall.mk [0] (s_sameAns p2 ok1 ok1 b1 b1 _ _ R1 R2 (hr1'.mono gs2) hr2') ⟨rfl, rfl, rfl⟩ ?_
    rintro _ _ ⟨rfl, rfl⟩
    have hall : ((ok1 == ok1) && (eqB b1 b1 && sameR R1 R2)) = true := by rw [rR, eqB_iff.2 rfl]; simp
    refine And.intro (fun _ => ?_) (fun h => absurd h (by rw [hall]; simp))
    refine VCall.mk [2, 3, 0] (s_Rec p2 ms1 c1 T1 _ (ht1.mono gs2) M.dot) ⟨rfl, rfl, rfl⟩ ?_
    rintro _ _ ⟨r, p3, rfl, gr3, rfl, gs3⟩
    obtain ⟨xa, xc, hxc⟩ := gr3.cmd.shape
    have gr3' := gr3
    obtain ⟨xst, xcmd, xseq, xdeps, xb, xaa⟩ := r
    obtain ⟨f1, _, f3, f4, f5, f6⟩ := gr3
    simp only at hxc f1 f3 f4 f5 f6
    subst hxc f1 f3 f4 f5 f6
    refine And.intro rfl ?_
    refine VCall.mk [4, 5, 0] (s_Rec p3 ms2 c2 U2 _ (ht2.mono gs3) M.dot) ⟨rfl, rfl, rfl⟩ ?_
    rintro _ _ ⟨r, p4, rfl, gr4, rfl, gs4⟩
    obtain ⟨ka, kc, hkc⟩ := gr4.cmd.shape
    have gr4' := gr4
    obtain ⟨kst, kcmd, kseq, kdeps, kb, kaa⟩ := r
    obtain ⟨f1, _, f3, f4, f5, f6⟩ := gr4
    simp only at hkc f1 f3 f4 f5 f6
    subst hkc f1 f3 f4 f5 f6
    refine VCall.mk [0] (s_Same p4 _ _ _ _ (gr3'.mono gs4) gr4') ⟨rfl, rfl, rfl⟩ ?_
    rintro _ _ ⟨rfl, rfl⟩
    exact VRet.mk [0] (bv (sameR (T1 M.dot) (U2 M.dot))) [.heap p4] ⟨rfl, rfl, rfl⟩ ⟨by rw [rS], p4, rfl, (((((hs.trans hs3).trans hsq).trans gs1).trans gs2).trans gs3).trans gs4⟩
end Go.Proofs

namespace Go.Proofs.Ytlaanieheglnjaa
open Go.ChangeShapes Go.WideShapes Go.ChangeAt Go.RowKit Go.V Go.Joins
set_option maxRecDepth 100000

theorem instLoad_lifted (os : Os) (started : os.Started) (H : Type) (enc : TypeId × Value → H) :
    ReturnsInHanded {} Try.checked os 7 .any (Rows.instLoadSpec.pre6 enc Try.prog Try.f7 Rows.instLoadRow.domain false) (Rows.instLoadSpec.post enc Try.prog Try.f7 false true false false) := by
  refine returnsInHanded_of_change (C := Try.checked) own started (by kernel_rfl) Try.func7
    (ChangeSpec.witness6 (enc := enc) (C := Try.checked) false ⟨#[], #[.slice none 0 0, .agg #[.int .i64 0, .int .i64 0, .int .i64 0, .int .i64 0, .int .i64 0, .slice none 0 0, .int .i64 0, .int .i64 0, .int .i64 0, .int .i64 0, .int .i64 0, .int .i64 0, .int .i64 0, .int .i64 0]], []⟩ 8 (by kernel_rfl) (by kernel_rfl) (by kernel_rfl) (by kernel_rfl)) ?_
  intro W base args ds gs before hval0 hW hcnd _
  have hval : ∀ (j : Nat) t v, Try.f7.params[j]? = some t → args[j]? = some v → Value.okWide Try.prog W .any base t v := hval0
  have hW' := hW
  obtain ⟨p, q, hA0, hV, rfl, hfz, hnd⟩ := hW
  have hA : DataW.TrodAll enc Try.prog W 0 (fun _ => true) true Try.f7.params.toList args.toList ds p := hA0
  rw [Try.params7] at hA hval
  obtain ⟨v0, vs0, d0, ds0, p0, q0, hargs, rfl, rfl, h0, r0⟩ := trodAll_cons hA
  obtain ⟨v1, vs1, d1, ds1, p1, q1, rfl, rfl, rfl, h1, r1⟩ := trodAll_cons r0
  obtain ⟨rfl, rfl, rfl⟩ := trodAll_nil r1
  obtain rfl : args = #[v0, v1] := by cases args; simp_all
  obtain ⟨rfl, rfl⟩ := trodVars_none hV
  have k0 := h0
  have lt0 : ∀ x ∈ p0, x.block < W.heap.size := by obtain ⟨m, hm⟩ := k0; exact DataW.trod_lt m _ _ _ hm
  obtain ⟨a0, len0, cap0, rfl⟩ := okWide_slice Try.underlying22 (hval 0 22 v0 rfl rfl)
  obtain ⟨m0, h0⟩ := h0
  obtain ⟨L0, hL0⟩ := open_msgs h0
  have k1 := h1
  have lt1 : ∀ x ∈ p1, x.block < W.heap.size := by obtain ⟨m, hm⟩ := k1; exact DataW.trod_lt m _ _ _ hm
  obtain ⟨c1, rfl⟩ := okWide_agg Try.underlying35 (hval 1 35 v1 rfl rfl)
  obtain ⟨m1, h1⟩ := h1
  obtain ⟨L1, hL1⟩ := open_msg1 h1
  obtain ⟨x1, hx1, hL1⟩ := hL1
  obtain rfl : c1 = (mcl x1).toArray := by apply Array.toList_inj.1; exact hx1
  clear hA0 hval0
  refine Calls.mono (ctr_all (s_InstLoad (allH W) _ L0 hL0 x1 L1 hL1) rfl rfl (r := .bool true) ?_) fun e W' ⟨he, bel⟩ => ?_
  · rintro v H' ρ' ⟨rfl, h', rfl, hs⟩; exact ⟨rfl, h', rfl, hs⟩
  subst he
  exact ⟨_, rfl, _, _, _, [], _, [], hW', trodAll_mk1 (shut_bool Try.underlying4 _), (trodAll_cons_mk (Below.trod laidOut (by kernel_rfl) (of_decide_eq_true (by kernel_rfl)) k0 bel lt0) (trodAll_cons_mk (Below.trod laidOut (by kernel_rfl) (of_decide_eq_true (by kernel_rfl)) k1 bel lt1) trodAll_mk0)), rfl, bel.frame _, fun h => by cases h⟩

theorem instLoad_holds : Rows.InstLoadSaid :=
  OpenClaim.holds_of_wide 7 Try.f7 rfl rfl rfl rfl rfl rfl rfl ⟨rfl, rfl, rfl, rfl, rfl⟩ rfl rfl rfl rfl rfl (by kernel_rfl) Try.func7 (by kernel_rfl)
    (of_decide_eq_true (by kernel_rfl)) (by unfold Func.isWrapper; first | (rw [if_pos (by decide +kernel)]; kernel_rfl) | (rw [if_neg (by decide +kernel)]; exact ⟨rfl, rfl⟩))
    (fun os started H enc _ => instLoad_lifted os started H enc)
end Go.Proofs.Ytlaanieheglnjaa

