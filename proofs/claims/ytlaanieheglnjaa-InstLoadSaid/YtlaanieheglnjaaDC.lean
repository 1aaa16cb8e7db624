/- Part of the proof that the statement named in the last file holds: lemmas of the prover's own. No conditions. -/
import Derived.Test.YtlaanieheglnjaaDB
import Derived.Test.YtlaanieheglnjaaVD
import Derived.Test.YtlaanieheglnjaaRows
namespace Go.Proofs
open Go Go.V
set_option maxRecDepth 100000
set_option linter.unusedVariables false

/-- What a message does. -/
def DoR (T : Int × Int → AR) (M : MA) (ok : Bool) (e : Int) (b : Int × Int) (R : AR) (T' : Int × Int → AR) : Prop :=
  (mayA M = false ∧ ok = false ∧ e = 1 ∧ b = (0, 0) ∧ R = zeroA ∧ T' = T) ∨
  (mayA M = true ∧ e = 0 ∧ b = R.b ∧ R = T' M.dot ∧ ((oldA M (T M.dot) = some ok ∧ T' = T) ∨
    (oldA M (T M.dot) = none ∧ ok = true ∧ ∃ seq deps, (M.kind = 1 → IsWould T M.dot seq deps) ∧ T' = updT T M.dot (newA M (T M.dot) seq deps))))
theorem Tab.up {h : Nat → Option Obj} {ms : RM} {c : Nat} {T : Int × Int → AR} {B B' : Int} (ht : Tab h ms c T B) (hB : B ≤ B') : Tab h ms c T B' :=
  { ht with seq := fun d => ⟨(ht.seq d).1, Int.le_trans (ht.seq d).2 hB⟩ }
def Do2Post (h : Nat → Option Obj) (ms : RM) (T : Int × Int → AR) (B : Int) (M : MA) (x : SV) (H : List SO) : Prop :=
  ∃ ok e b r R T' ms' c' h', x = .tup [.agg (acells ok b r), iv e] ∧ H = [tbl 1, rmap ms' c', .heap h'] ∧ Sub h h' ∧ Tab h' ms' c' T' (B + 1) ∧ RIs h' r R ∧ DoR T M ok e b R T' ∧ ms'.length ≤ ms.length + 1
theorem s_Do2 (h : Nat → Option Obj) (ms : RM) (c : Nat) (T : Int × Int → AR) (B : Int) (ht : Tab h ms c T B) (hB : 1099511627776 ≤ B ∧ B ≤ 4611686018427387904) (m : MsgV) (M : MA) (hm : MIs h m M) :
    Ctr Try.prog F_inst_Table_Do [.ptr 0 0, .agg (mcells m)] [tbl 1, rmap ms c, .heap h] (Do2Post h ms T B M) := by
  refine Ctr.weak (s_Do h ms c T B ht hB m M hm) ?_
  rintro x H (⟨h1, rfl, rfl⟩ | ⟨h1, ok, r, h', ho, rfl, hr, rfl, hs⟩ | ⟨h1, ho, seq, deps, hW, r, ms', c', h', rfl, hr, rfl, hs, ht', hl⟩)
  · exact ⟨false, 1, (0, 0), zeroV, zeroA, T, ms, c, h, rfl, rfl, Sub.refl h, ht.up (by omega), RIs.zero h, .inl ⟨h1, rfl, rfl, rfl, rfl, rfl⟩, by omega⟩
  · exact ⟨ok, 0, r.b, r, T M.dot, T, ms, c, h', rfl, rfl, hs, (ht.mono hs).up (by omega), hr, .inr ⟨h1, rfl, hr.b, rfl, .inl ⟨ho, rfl⟩⟩, by omega⟩
  · have hTd : updT T M.dot (newA M (T M.dot) seq deps) M.dot = newA M (T M.dot) seq deps := if_pos rfl
    exact ⟨true, 0, r.b, r, _, _, ms', c', h', rfl, rfl, hs, ht', hr, .inr ⟨h1, rfl, hr.b, hTd.symm, .inr ⟨ho, rfl, seq, deps, hW, rfl⟩⟩, hl⟩

/-! ### What the document tells of two proposals -/
def M1 : MA := ⟨1, (0, 1), (0, 0), [120], 0, fun _ => 0⟩
def M2 : MA := ⟨1, (1, 1), (0, 1), [121], 0, fun _ => 0⟩
theorem would_zero {d : Int × Int} {seq : Int} {deps : Nat → Int} (h : IsWould (fun _ => zeroA) d seq deps) : seq = 0 ∧ ∀ i, i < 7 → deps i = 0 := by
  refine ⟨?_, fun i hi => ?_⟩
  · rcases h.is with h1 | ⟨o, _, h1, _⟩
    · exact h1
    · exact absurd rfl h1
  · rcases h.dep i hi with h1 | ⟨o, _, h1, _⟩
    · exact h1
    · exact absurd rfl h1
theorem vmax_zero (d : Nat → Int) {i : Nat} (hi : 0 ≤ d i) : vmax (fun _ => 0) d i = d i := by
  simp only [vmax]; split <;> omega
theorem awake1 {ok : Bool} {e : Int} {b : Int × Int} {R : AR} {T' : Int × Int → AR} (h : DoR (fun _ => zeroA) M1 ok e b R T') : ok = true ∧ e = 0 ∧ ∃ R1, T' = updT (fun _ => zeroA) (0, 1) R1 ∧ R = R1 ∧ R1.st = 1 ∧ R1.seq = 0 := by
  rcases h with ⟨h1, _⟩ | ⟨_, rfl, _, rfl, ⟨h1, _⟩ | ⟨_, rfl, seq, deps, hW, rfl⟩⟩
  · exact absurd h1 (by decide)
  · exact absurd h1 (by simp [oldA, zeroA, M1, cmpD, orI, cmpI])
  · obtain ⟨rfl, hd⟩ := would_zero (hW rfl)
    refine ⟨rfl, rfl, _, rfl, if_pos rfl, rfl, ?_⟩
    simp [newA, M1]
theorem awake2 {R1 : AR} (h1 : R1.st = 1) (h2 : R1.seq = 0) {ok : Bool} {e : Int} {b : Int × Int} {R : AR} {T' : Int × Int → AR} (h : DoR (updT (fun _ => zeroA) (0, 1) R1) M2 ok e b R T') :
    ok = true ∧ e = 0 ∧ R.seq = 1 ∧ (R.deps 0 = 1 ∧ ∀ i, 1 ≤ i → i < 7 → R.deps i = 0) ∧ ∀ v, IsKnown T' v → v 0 = 1 ∧ v 1 = 1 ∧ ∀ i, 2 ≤ i → i < 7 → v i = 0 := by
  have hT : updT (fun _ => zeroA) (0, 1) R1 (1, 1) = zeroA := if_neg (by decide)
  rcases h with ⟨h3, _⟩ | ⟨_, rfl, _, rfl, ⟨h3, _⟩ | ⟨_, rfl, seq, deps, hW, rfl⟩⟩
  · exact absurd h3 (by decide)
  · have : M2.dot = (1, 1) := rfl
    rw [this, hT] at h3
    exact absurd h3 (by simp [oldA, zeroA, M2, cmpD, orI, cmpI])
  · have hW := hW rfl
    have live : ∀ o, (updT (fun _ => zeroA) (0, 1) R1 o).st ≠ 0 → o = (0, 1) := by
      intro o ho
      by_cases e : o = (0, 1)
      · exact e
      · simp only [updT, if_neg e] at ho; exact absurd rfl ho
    have h01 : updT (fun _ => zeroA) (0, 1) R1 (0, 1) = R1 := if_pos rfl
    have g1 := hW.ge (0, 1) (by simp [M2]) (by rw [h01, h1]; decide)
    rw [h01, h2] at g1
    have hs : seq = 1 := by
      rcases hW.is with h3 | ⟨o, _, h3, h4⟩
      · omega
      · rw [live o h3, h01, h2] at h4; omega
    subst hs
    have d0 : deps 0 = 1 := by
      rcases hW.dep 0 (by omega) with h3 | ⟨o, _, h3, h4, h5⟩
      · have := g1.2; simp at this; omega
      · rw [h5, live o h3]
    have di : ∀ i, 1 ≤ i → i < 7 → deps i = 0 := by
      intro i hi hi7
      rcases hW.dep i hi7 with h3 | ⟨o, _, h3, h4, h5⟩
      · exact h3
      · rw [live o h3] at h4; simp at h4; omega
    have hn : newA M2 (updT (fun _ => zeroA) (0, 1) R1 M2.dot) 1 deps = ⟨1, [121], 1, vmax (fun _ => 0) deps, (0, 1), (0, 1)⟩ := by
      simp [newA, M2]
    refine ⟨rfl, rfl, ?_, ⟨?_, ?_⟩, ?_⟩
    · rw [hn]; simp [updT]
    · rw [hn]; simp only [updT, if_true]; rw [vmax_zero _ (by omega), d0]
    · intro i hi hi7; rw [hn]; simp only [updT, if_true]; rw [vmax_zero _ (by rw [di i hi hi7]; decide), di i hi hi7]
    · intro v hv
      rw [hn] at hv
      have two : ∀ o, (updT (updT (fun _ => zeroA) (0, 1) R1) M2.dot ⟨1, [121], 1, vmax (fun _ => 0) deps, (0, 1), (0, 1)⟩ o).st ≠ 0 → o = (1, 1) ∨ o = (0, 1) := by
        intro o ho
        by_cases e : o = (1, 1)
        · exact .inl e
        · have : M2.dot = (1, 1) := rfl
          rw [this] at ho
          rw [updT, if_neg e] at ho
          exact .inr (live o ho)
      have k1 := hv.ge (1, 1) (by simp [updT, M2])
      have k0 := hv.ge (0, 1) (by simp [updT, M2, h1])
      simp at k1 k0
      refine ⟨?_, ?_, fun i hi hi7 => ?_⟩
      · rcases hv.is 0 (by omega) with h3 | ⟨o, h3, h4, h5⟩
        · omega
        · rcases two o h3 with rfl | rfl
          · simp at h4
          · exact h5
      · rcases hv.is 1 (by omega) with h3 | ⟨o, h3, h4, h5⟩
        · omega
        · rcases two o h3 with rfl | rfl
          · exact h5
          · simp at h4
      · rcases hv.is i hi7 with h3 | ⟨o, h3, h4, h5⟩
        · exact h3
        · rcases two o h3 with rfl | rfl
          · simp at h4; omega
          · simp at h4; omega
end Go.Proofs

namespace Go.Proofs
open Go Go.V
set_option maxRecDepth 100000
set_option linter.unusedVariables false

theorem byte1 (h : Nat → Option Obj) (b : Nat) (fr : Nat × Nat) (n : Int) (hn : 0 ≤ n ∧ n < 256) : ByIs (updh h b (.cells [Value.int .u8 n].toArray T_uint8 fr)) (.slice (some ⟨b, 0, none⟩) 1 1) [n] :=
  ⟨by simpa using hn, .inr ⟨⟨b, 0, none⟩, 1, 1, rfl, rfl, .inr ⟨b, 0, [.int .u8 n], T_uint8, fr, rfl, by simp [updh], rfl⟩⟩⟩

set_option maxHeartbeats 1000000 in
theorem s_awake (h : Nat → Option Obj) : Ctr Try.prog F_rostrumlaw20_awake [] [.heap h] (fun x H => x = bv true ∧ ∃ h', H = [.heap h'] ∧ Sub h h') := by
  refine i_rostrumlaw20_awake.spec follows ?_
  refine VCall.mk [] s_New ⟨rfl, rfl, rfl⟩ ?_
  rintro _ _ ⟨rfl, rfl⟩
  refine And.intro (by simp) ?_
  refine VCall.view (VView.pubArr 3 0 ⟨rfl, rfl⟩ (fun h0 => by cases h0) (fun b fr hb hfr => VView.done ?_))
  have hs1 : Sub h (updh h b (.cells [Value.int .u8 120].toArray T_uint8 fr)) := Sub.upd hb
  refine VCall1.mk [1, 2, 0] (s_Do2 _ [] 0 (fun _ => zeroA) 1099511627776 (Tab.nil _ (by omega)) (by omega) ⟨1, (0, 1), (0, 0), _, 0, fun _ => 0⟩ M1 ⟨rfl, rfl, rfl, byte1 h b fr 120 (by omega), rfl, rfl⟩) ⟨rfl, rfl, rfl⟩ ?_
  rintro _ _ ⟨ok, e, ba, r, R, T1, ms1, c1, h1, rfl, rfl, hs2, ht1, hr1, hD1, hl1⟩
  obtain ⟨rfl, rfl, R1, rfl, rfl, k1, k2⟩ := awake1 hD1
  obtain ⟨ra, rc, hrc⟩ := hr1.cmd.shape
  obtain ⟨rst, rcmd, rseq, rdeps, rb, raa⟩ := r
  simp only at hrc
  subst hrc
  refine And.intro (by simp) ?_
  refine VCall.view (VView.pubArr 5 0 ⟨rfl, rfl⟩ (fun h0 => by cases h0) (fun b2 fr2 hb2 hfr2 => VView.done ?_))
  have hs3 : Sub h1 (updh h1 b2 (.cells [Value.int .u8 121].toArray T_uint8 fr2)) := Sub.upd hb2
  refine VCall1.mk [1, 2, 0] (s_Do2 _ ms1 c1 _ 1099511627777 (ht1.mono hs3) (by omega) ⟨1, (1, 1), (0, 1), _, 0, fun _ => 0⟩ M2 ⟨rfl, rfl, rfl, byte1 h1 b2 fr2 121 (by omega), rfl, rfl⟩) ⟨rfl, rfl, rfl⟩ ?_
  rintro _ _ ⟨ok, e, bb, r2, S, T2, ms2, c2, h2, rfl, rfl, hs4, ht2, hr2, hD2, hl2⟩
  obtain ⟨rfl, rfl, q1, ⟨q2, q3⟩, hkn⟩ := awake2 k1 k2 hD2
  obtain ⟨sa, sc, hsc⟩ := hr2.cmd.shape
  obtain ⟨sst, scmd, sseq, sdeps, sb, saa⟩ := r2
  simp only at hsc
  subst hsc
  have hrs : rseq = 0 := hr1.seq.trans k2
  have hss : sseq = 1 := hr2.seq.trans q1
  subst hrs hss
  have hsd : sdeps = S.deps := hr2.deps
  subst hsd
  refine And.intro (fun _ => ?_) (fun h => absurd h (by simp))
  refine And.intro (fun _ => ?_) (fun h => absurd h (by simp))
  refine And.intro (fun _ => ?_) (fun h => absurd h (by simp))
  refine And.intro (fun _ => ?_) (fun h => absurd h (by simp))
  refine And.intro (fun _ => ?_) (fun h => absurd h (by simp))
  refine And.intro (fun _ => ?_) (fun h => absurd h (by simp))
  have he : (decide (S.deps 0 = 1) && (decide (S.deps 1 = 0) && (decide (S.deps 2 = 0) && (decide (S.deps 3 = 0) && (decide (S.deps 4 = 0) && (decide (S.deps 5 = 0) && decide (S.deps 6 = 0))))))) = true := by
    simp [q2, q3]
  refine And.intro (fun _ => ?_) (fun h => absurd (he.symm.trans h) (by decide))
  refine VCall.mk [1, 2] (s_Known h2 ms2 c2 T2 _ ht2 (by simp at hl1; omega)) ⟨rfl, rfl, rfl⟩ ?_
  rintro _ _ ⟨v, rfl, rfl, hv⟩
  obtain ⟨v0, v1, vi⟩ := hkn v hv
  have he2 : (decide (v 0 = 1) && (decide (v 1 = 1) && (decide (v 2 = 0) && (decide (v 3 = 0) && (decide (v 4 = 0) && (decide (v 5 = 0) && decide (v 6 = 0))))))) = true := by
    simp [v0, v1, vi]
  refine VRet.mk [0] (bv (decide (v 0 = 1) && (decide (v 1 = 1) && (decide (v 2 = 0) && (decide (v 3 = 0) && (decide (v 4 = 0) && (decide (v 5 = 0) && decide (v 6 = 0)))))))) [.heap h2] ⟨rfl, rfl, rfl⟩ ⟨by rw [he2], h2, rfl, ((hs1.trans hs2).trans hs3).trans hs4⟩
end Go.Proofs

namespace Go.Proofs
open Go Go.V
set_option maxRecDepth 100000
set_option linter.unusedVariables false

theorem DoR.other {T T' : Int × Int → AR} {M : MA} {ok : Bool} {e : Int} {b : Int × Int} {R : AR} (h : DoR T M ok e b R T') {d : Int × Int} (hd : d ≠ M.dot) : T' d = T d := by
  rcases h with ⟨_, _, _, _, _, rfl⟩ | ⟨_, _, _, _, ⟨_, rfl⟩ | ⟨_, _, seq, deps, _, rfl⟩⟩
  · rfl
  · rfl
  · exact if_neg hd
/-- A first hearing of an instance of which nothing is known. -/
theorem DoR.first {T T' : Int × Int → AR} {d : Int × Int} {l : List Int} {ok : Bool} {e : Int} {b : Int × Int} {R : AR} (h : DoR T ⟨1, d, (0, 0), l, 0, fun _ => 0⟩ ok e b R T') (hz : T d = zeroA) :
    e = 1 ∨ (e = 0 ∧ dotB d = true ∧ ok = true ∧ R = T' d ∧ R.st = 1 ∧ ∃ seq deps, IsWould T d seq deps ∧ R.seq = seq ∧ R.deps = vmax (fun _ => 0) deps) := by
  rcases h with ⟨_, _, h1, _⟩ | ⟨hm, rfl, _, hR, ⟨h1, _⟩ | ⟨_, rfl, seq, deps, hW, rfl⟩⟩
  · exact .inl h1
  · simp only at h1
    rw [hz] at h1
    exact absurd h1 (by simp [oldA, zeroA, cmpD, orI, cmpI])
  · have hW := hW rfl
    refine .inr ⟨rfl, (mayA_iff hm).2.1, rfl, hR, ?_⟩
    simp only [updT, if_true] at hR
    have hlo := hW.lo
    rw [hR]
    simp only [newA, if_true]
    refine ⟨trivial, seq, deps, hW, ?_, rfl⟩
    split <;> omega
theorem acells_get (ok : Bool) (b : Int × Int) (r : RecV) {n : Int} (h : 0 ≤ n ∧ n < 7) : (acells ok b r)[6 + n.toNat * 1]? = some (iv (r.deps n.toNat)) := by
  have h7 : n.toNat < 7 := by omega
  rw [Nat.mul_one]
  generalize n.toNat = i at *
  match i, h7 with | 0, _ | 1, _ | 2, _ | 3, _ | 4, _ | 5, _ | 6, _ => rfl
structure HX where
  i : Nat
  ms : RM
  c : Nat
  T : Int × Int → AR
  h : Nat → Option Obj
set_option maxHeartbeats 1000000 in
theorem s_InstHangs (h : Nat → Option Obj) (v : Value) (L : List MA) (hv : MsgsIs h v L) (a b : Int × Int) :
    Ctr Try.prog F_rostrumlaw20_InstHangs [.raw v, .agg (dcells a.1 a.2), .agg (dcells b.1 b.2)] [.heap h] (fun x H => x = bv true ∧ ∃ h', H = [.heap h'] ∧ Sub h h') := by
  obtain ⟨la, lc, rfl⟩ := hv.shape
  refine i_rostrumlaw20_InstHangs.spec follows ?_
  refine VCall.mk [0] (s_awake h) ⟨rfl, rfl, rfl⟩ ?_
  rintro _ _ ⟨rfl, h0, rfl, hs0⟩
  refine And.intro (fun h => absurd h (by simp)) (fun _ => ?_)
  refine VCall.mk [0] (s_light h0 _ L (hv.mono hs0)) ⟨rfl, rfl, rfl⟩ ?_
  rintro _ _ ⟨rfl, rfl⟩
  refine And.intro (fun hl => ?_) (fun hl => ?_)
  rotate_left 1
  · exact VRet.mk [0] (bv true) [.heap h0] ⟨rfl, rfl, rfl⟩ ⟨rfl, h0, rfl, hs0⟩
  have hlight : lightB L = true := by simpa using hl
  have hL : L.length ≤ 40 := by
    simp only [lightB, Bool.and_eq_true, decide_eq_true_eq] at hlight
    exact hlight.1
  refine And.intro (fun hab => ?_) (fun hab => ?_)
  · exact VRet.mk [0] (bv true) [.heap h0] ⟨rfl, rfl, rfl⟩ ⟨rfl, h0, rfl, hs0⟩
  have hab : a ≠ b := by
    rintro rfl
    simp at hab
  refine VCall.mk [] s_New ⟨rfl, rfl, rfl⟩ ?_
  rintro _ _ ⟨rfl, rfl⟩
  refine VLoop.mk HX (fun x => [(0, .raw (.slice la L.length lc)), (4, .ptr 1 0), (5, .ptr 2 0), (7, .ptr 3 0), (8, iv x.i)]) (fun x => [.heap x.h, .cells (dcells a.1 a.2) 24, .cells (dcells b.1 b.2) 24, tbl 4, rmap x.ms x.c])
    (fun x => x.i ≤ L.length ∧ Tab x.h x.ms x.c x.T (1099511627776 + x.i) ∧ Sub h x.h ∧ x.ms.length ≤ x.i ∧ x.T a = zeroA ∧ x.T b = zeroA) (fun x => L.length - x.i) ⟨0, [], 0, fun _ => zeroA, h0⟩ [0, 1, 2, 3, 4]
    ⟨⟨Nat.zero_le _, Tab.nil _ (by show (0 : Int) ≤ 1099511627776 + ((0 : Nat) : Int); decide), hs0, Nat.le_refl _, rfl, rfl⟩, rfl, rfl, rfl⟩ ?_
  rintro ⟨i, ms, c, T, h1⟩ ⟨hi, ht, hs, hml, hza, hzb⟩ g
  simp only at hi ht hs hml hza hzb
  refine And.intro (fun h2 => ?_) (fun h2 => ?_)
  · have h2 := of_decide_eq_true h2
    have hil : i < L.length := by simp only at h2; omega
    have hw : IntKind.i64.wrap ((i : Int) + 1) = ((i + 1 : Nat) : Int) := wrap64 (by omega)
    obtain ⟨bb, o, xs, e, fr, m, rfl, hh, hc, hm⟩ := (hv.mono hs).at hil
    have hc2 := cut_sub hc 1 2 (by omega)
    have hn : (0 : Int) ≤ (i : Int) ∧ (i : Int) < (L.length : Nat) := ⟨Int.natCast_nonneg i, by omega⟩
    have hskip : Tab h1 ms c T (1099511627776 + ((i + 1 : Nat) : Int)) := ht.up (by omega)
    refine And.intro hn ?_
    refine Exists.intro 0 (Exists.intro xs (Exists.intro e (Exists.intro fr (And.intro hh (Exists.intro _ (And.intro (by rw [Int.toNat_natCast]; exact hc2) ?_))))))
    refine And.intro (fun h3 => ?_) (fun h3 => ?_)
    · refine And.intro hn ?_
      refine Exists.intro 0 (Exists.intro xs (Exists.intro e (Exists.intro fr (And.intro hh (Exists.intro _ (And.intro (by rw [Int.toNat_natCast]; exact hc2) ?_))))))
      refine And.intro (fun h4 => ?_) (fun h4 => ?_)
      · refine And.intro hn ?_
        refine Exists.intro 0 (Exists.intro xs (Exists.intro e (Exists.intro fr (And.intro hh (Exists.intro _ (And.intro (by rw [Int.toNat_natCast]; exact hc) ?_))))))
        refine VCall.mk [3, 4, 0] (s_Do2 h1 ms c T _ ht (by omega) m L[i] hm) ⟨rfl, rfl, rfl⟩ ?_
        rintro _ _ ⟨ok, e1, b1, r, R, T', ms', c', h', rfl, rfl, hs', ht', hr', hD, hl'⟩
        refine Exists.intro _ (And.intro hw ?_)
        have ha : a ≠ L[i].dot := by
          rintro rfl
          have : (!(decide (m.dot.1 = L[i].dot.1) && decide (m.dot.2 = L[i].dot.2))) = true := h3
          rw [hm.dot] at this
          simp at this
        have hb : b ≠ L[i].dot := by
          rintro rfl
          have : (!(decide (m.dot.1 = L[i].dot.1) && decide (m.dot.2 = L[i].dot.2))) = true := h4
          rw [hm.dot] at this
          simp at this
        refine Exists.intro ⟨i + 1, ms', c', T', h'⟩ (Exists.intro [0, 1, 2, 3, 4] (And.intro ⟨⟨hil, ?_, hs.trans hs', by simp only; omega, ?_, ?_⟩, by simp only; omega⟩ ⟨rfl, rfl, rfl⟩))
        · exact ht'.up (by simp only; omega)
        · exact (hD.other ha).trans hza
        · exact (hD.other hb).trans hzb
      · refine Exists.intro _ (And.intro hw ?_)
        exact Exists.intro ⟨i + 1, ms, c, T, h1⟩ (Exists.intro [0, 1, 2, 3, 4] (And.intro ⟨⟨hil, hskip, hs, by simp only; omega, hza, hzb⟩, by simp only; omega⟩ ⟨rfl, rfl, rfl⟩))
    · refine Exists.intro _ (And.intro hw ?_)
      exact Exists.intro ⟨i + 1, ms, c, T, h1⟩ (Exists.intro [0, 1, 2, 3, 4] (And.intro ⟨⟨hil, hskip, hs, by simp only; omega, hza, hzb⟩, by simp only; omega⟩ ⟨rfl, rfl, rfl⟩))
  · have hml' : ms.length ≤ 40 := by omega
    refine And.intro (by simp) ?_
    refine VCall.view (VView.pubArr 5 0 ⟨rfl, rfl⟩ (fun h0 => by cases h0) (fun p1 fr1 hp1 hf1 => VView.done ?_))
    have hs1 : Sub h1 (updh h1 p1 (.cells [Value.int .u8 97].toArray T_uint8 fr1)) := Sub.upd hp1
    refine VCall1.mk [3, 4, 0] (s_Do2 _ ms c T _ (ht.mono hs1) (by omega) ⟨1, a, (0, 0), _, 0, fun _ => 0⟩ ⟨1, a, (0, 0), [97], 0, fun _ => 0⟩ ⟨rfl, rfl, rfl, byte1 h1 p1 fr1 97 (by omega), rfl, rfl⟩) ⟨rfl, rfl, rfl⟩ ?_
    rintro _ _ ⟨ok1, e1, b1, r1, R1, T1, ms1, c1, h2', rfl, rfl, hs2, ht1, hr1, hD1, hl1⟩
    obtain ⟨ra1, rc1, hrc1⟩ := hr1.cmd.shape
    obtain ⟨rst1, rcmd1, rseq1, rdeps1, rb1, raa1⟩ := r1
    simp only at hrc1
    subst hrc1
    refine And.intro (by simp) ?_
    refine VCall.view (VView.pubArr 7 0 ⟨rfl, rfl⟩ (fun h0 => by cases h0) (fun p2 fr2 hp2 hf2 => VView.done ?_))
    have hs3 : Sub h2' (updh h2' p2 (.cells [Value.int .u8 98].toArray T_uint8 fr2)) := Sub.upd hp2
    refine VCall1.mk [3, 4, 0] (s_Do2 _ ms1 c1 T1 _ (ht1.mono hs3) (by omega) ⟨1, b, (0, 0), _, 0, fun _ => 0⟩ ⟨1, b, (0, 0), [98], 0, fun _ => 0⟩ ⟨rfl, rfl, rfl, byte1 h2' p2 fr2 98 (by omega), rfl, rfl⟩) ⟨rfl, rfl, rfl⟩ ?_
    rintro _ _ ⟨ok2, e2, b2, r2, R2, T2, ms2, c2, h3', rfl, rfl, hs4, ht2, hr2, hD2, hl2⟩
    obtain ⟨ra2, rc2, hrc2⟩ := hr2.cmd.shape
    obtain ⟨rst2, rcmd2, rseq2, rdeps2, rb2, raa2⟩ := r2
    simp only at hrc2
    subst hrc2
    have hsA : Sub h h3' := (((hs.trans hs1).trans hs2).trans hs3).trans hs4
    have hzb1 : T1 b = zeroA := (hD1.other (Ne.symm hab)).trans hzb
    rcases hD1.first hza with rfl | ⟨rfl, hda, rfl, hR1, hst1, seq1, deps1, hW1, hq1, hd1⟩
    · refine And.intro (fun h => absurd h (by simp)) (fun _ => ?_)
      refine And.intro (fun h => absurd h (by simp)) (fun _ => ?_)
      exact VRet.mk [0] (bv true) [.heap h3'] ⟨rfl, rfl, rfl⟩ ⟨rfl, h3', rfl, hsA⟩
    · refine And.intro (fun _ => ?_) (fun h => absurd h (by simp))
      rcases hD2.first hzb1 with rfl | ⟨rfl, hdb, rfl, hR2, hst2, seq2, deps2, hW2, hq2, hd2⟩
      · refine And.intro (fun _ => ?_) (fun h => absurd h (by simp))
        refine And.intro (fun _ => ?_) (fun h => absurd h (by simp))
        exact VRet.mk [0] (bv true) [.heap h3'] ⟨rfl, rfl, rfl⟩ ⟨rfl, h3', rfl, hsA⟩
      · have hrep : 0 ≤ a.1 ∧ a.1 < 7 := by
          simp only [dotB, Bool.and_eq_true, isRep_iff] at hda
          exact hda.1
        have hge := hW2.ge a hab (by rw [← hR1, hst1]; decide)
        rw [← hR1] at hge
        have hrd : rdeps2 = vmax (fun _ => 0) deps2 := hr2.deps.trans hd2
        have hrs2 : rseq2 = seq2 := hr2.seq.trans hq2
        have hrs1 : rseq1 = R1.seq := hr1.seq
        have hv : a.2 ≤ rdeps2 a.1.toNat := by
          rw [hrd]; simp only [vmax]; split <;> omega
        refine And.intro (fun h => absurd h (by simp)) (fun _ => ?_)
        refine And.intro (fun _ => ?_) (fun h => absurd h (by simp))
        refine And.intro (fun _ => ?_) (fun h => absurd h (by simp))
        refine And.intro hrep (Exists.intro _ (And.intro (acells_get true b2 ⟨rst2, .slice ra2 R2.cmd.length rc2, rseq2, rdeps2, rb2, raa2⟩ hrep) ?_))
        refine And.intro (fun _ => ?_) (fun h => absurd (of_decide_eq_false h) (by simp only; omega))
        refine VRet.mk [0] (bv (decide (rseq1 < rseq2))) [.heap h3'] ⟨rfl, rfl, rfl⟩ ⟨?_, h3', rfl, hsA⟩
        have : rseq1 < rseq2 := by omega
        simp [this]
end Go.Proofs

namespace Go.Proofs.Ytlaanieheglnjaa
open Go.ChangeShapes Go.WideShapes Go.ChangeAt Go.RowKit Go.V Go.Joins
set_option maxRecDepth 100000

theorem own : ownKnob Try.prog.godebug = none := by kernel_rfl
theorem laidOut : laidOutB Try.prog = true := by kernel_rfl

section
variable {H : Type} {enc : TypeId × Value → H} {W : World}
theorem lit_u8 {n : Int} (h : (Lit.int .u8 n).wf = true) : 0 ≤ n ∧ n < 256 := by
  simp [Lit.wf, IntKind.min, IntKind.max, IntKind.signed, IntKind.bits] at h
  omega
theorem get_of_cut {xs cs : List Value} {o k : Nat} (h : V.cut xs o k = some cs) {j : Nat} (hj : j < k) : xs[o + j]? = cs[j]? := ((cut_spec h).2 j hj).symm
/-- Bytes that came in. -/
theorem open_by {fuel : Nat} {v : Value} {x : DataW H × List MemPlace} (h : DataW.trod enc Try.prog W 0 (fun _ => true) true fuel T_sl_uint8 [v] = some x) : ∃ l, ByIs (allH W) v l := by
  rcases open_rows (d := 2) (ks := [.int .u8]) (show Try.prog.underlying T_sl_uint8 = some (.slice T_uint8) by kernel_rfl) (by kernel_rfl) (by kernel_rfl) (by decide) h with rfl | ⟨a, len, cap, rfl, hlc, h0 | ⟨b, o, xs, te, fr, rfl, hb, hx⟩⟩
  · exact ⟨[], ByIs.nil _⟩
  · subst h0
    exact ⟨[], by simp, .inr ⟨a, 0, cap, rfl, rfl, .inl ⟨rfl, rfl⟩⟩⟩
  · have each : ∀ i, i < len → ∃ n : Int, xs[o + i]? = some (.int .u8 n) ∧ (0 ≤ n ∧ n < 256) := by
      intro i hi
      obtain ⟨cs, h1, h2, h3⟩ := hx i hi
      match cs, h2 with
      | [y], _ =>
        obtain ⟨n, rfl, hw⟩ := h3 0 _ y rfl rfl
        have := get_of_cut h1 (j := 0) (by decide)
        simp only [List.length_cons, List.length_nil, Nat.zero_add, Nat.mul_one, Nat.add_zero] at this
        exact ⟨n, this, lit_u8 hw⟩
    obtain ⟨q, hq⟩ := Go.Deep.choose_lt each
    refine ⟨(List.range len).map q, ?_, .inr ⟨⟨b, o, none⟩, len, cap, rfl, by simp, .inr ⟨b, o, xs, te, fr, rfl, hb, ?_⟩⟩⟩
    · intro y hy
      obtain ⟨i, hi, rfl⟩ := List.mem_map.1 hy
      exact (hq i (List.mem_range.1 hi)).2
    · have hlen : len = 0 ∨ o + len ≤ xs.length := by
        rcases Nat.eq_zero_or_pos len with h0 | h0
        · exact .inl h0
        · have := (List.getElem?_eq_some_iff.1 (hq (len - 1) (by omega)).1).1
          right; omega
      apply List.ext_getElem?
      intro i
      by_cases hi : i < len
      · rw [List.getElem?_take_of_lt hi, List.getElem?_drop, (hq i hi).1]
        simp [hi]
      · rw [List.getElem?_eq_none (by simp; omega), List.getElem?_eq_none (by simp; omega)]
def seven (f : Nat → Int) : Nat → Int := f
theorem fit_int {k : IntKind} {v : Value} (h : FitK enc Try.prog W 0 (fun _ => true) true (.int k) v) : ∃ n, v = .int k n := by
  obtain ⟨n, h, _⟩ := h; exact ⟨n, h⟩
/-- A message that came in. -/
abbrev msgK : List FKd := [.int .i64, .int .i64, .int .i64, .int .i64, .int .i64, .sl T_sl_uint8, .int .i64, .int .i64, .int .i64, .int .i64, .int .i64, .int .i64, .int .i64, .int .i64]
theorem open_msg {cs : List Value} (hl : cs.length = 14) (hf : ∀ (j : Nat) k y, msgK[j]? = some k → cs[j]? = some y → FitK enc Try.prog W 0 (fun _ => true) true k y) : ∃ m M, cs = mcl m ∧ MIs (allH W) m M := by
  match cs, hl with
  | [c0, c1, c2, c3, c4, c5, c6, c7, c8, c9, c10, c11, c12, c13], _ =>
    obtain ⟨n0, rfl⟩ := fit_int (hf 0 _ c0 rfl rfl)
    obtain ⟨n1, rfl⟩ := fit_int (hf 1 _ c1 rfl rfl)
    obtain ⟨n2, rfl⟩ := fit_int (hf 2 _ c2 rfl rfl)
    obtain ⟨n3, rfl⟩ := fit_int (hf 3 _ c3 rfl rfl)
    obtain ⟨n4, rfl⟩ := fit_int (hf 4 _ c4 rfl rfl)
    obtain ⟨fuel, x, hx⟩ := hf 5 _ c5 rfl rfl
    obtain ⟨l, hb⟩ := open_by hx
    obtain ⟨n6, rfl⟩ := fit_int (hf 6 _ c6 rfl rfl)
    obtain ⟨n7, rfl⟩ := fit_int (hf 7 _ c7 rfl rfl)
    obtain ⟨n8, rfl⟩ := fit_int (hf 8 _ c8 rfl rfl)
    obtain ⟨n9, rfl⟩ := fit_int (hf 9 _ c9 rfl rfl)
    obtain ⟨n10, rfl⟩ := fit_int (hf 10 _ c10 rfl rfl)
    obtain ⟨n11, rfl⟩ := fit_int (hf 11 _ c11 rfl rfl)
    obtain ⟨n12, rfl⟩ := fit_int (hf 12 _ c12 rfl rfl)
    obtain ⟨n13, rfl⟩ := fit_int (hf 13 _ c13 rfl rfl)
    let dp : Nat → Int := fun i => match i with | 0 => n7 | 1 => n8 | 2 => n9 | 3 => n10 | 4 => n11 | 5 => n12 | _ => n13
    exact ⟨⟨n0, (n1, n2), (n3, n4), c5, n6, dp⟩, ⟨n0, (n1, n2), (n3, n4), l, n6, dp⟩, rfl, ⟨rfl, rfl, rfl, hb, rfl, rfl⟩⟩
theorem open_dot {fuel : Nat} {c : Array Value} {x : DataW H × List MemPlace} (h : DataW.trod enc Try.prog W 0 (fun _ => true) true fuel T_api_Dot c.toList = some x) : ∃ L : Int × Int, c.toList = [.int .i64 L.1, .int .i64 L.2] := by
  obtain ⟨hl, hf⟩ := flat_fit 3 T_api_Dot [.int .i64, .int .i64] fuel _ x (by kernel_rfl) h
  generalize c.toList = cs at *
  match cs, hl with
  | [c0, c1], _ =>
    obtain ⟨n0, rfl⟩ := fit_int (hf 0 _ c0 rfl rfl)
    obtain ⟨n1, rfl⟩ := fit_int (hf 1 _ c1 rfl rfl)
    exact ⟨(n0, n1), rfl⟩
theorem open_msg1 {fuel : Nat} {c : Array Value} {x : DataW H × List MemPlace} (h : DataW.trod enc Try.prog W 0 (fun _ => true) true fuel T_inst_Msg c.toList = some x) : ∃ M m, c.toList = mcl m ∧ MIs (allH W) m M := by
  obtain ⟨hl, hf⟩ := flat_fit 5 T_inst_Msg msgK fuel _ x (by kernel_rfl) h
  obtain ⟨m, M, h1, h2⟩ := open_msg hl hf
  exact ⟨M, m, h1, h2⟩
theorem open_msgs {fuel : Nat} {v : Value} {x : DataW H × List MemPlace} (h : DataW.trod enc Try.prog W 0 (fun _ => true) true fuel T_sl_inst_Msg [v] = some x) : ∃ L, MsgsIs (allH W) v L := by
  rcases open_rows (d := 5) (ks := msgK) (show Try.prog.underlying T_sl_inst_Msg = some (.slice T_inst_Msg) by kernel_rfl) (by kernel_rfl) (by kernel_rfl) (by decide) h with rfl | ⟨a, len, cap, rfl, hlc, h0 | ⟨b, o, xs, te, fr, rfl, hb, hx⟩⟩
  · exact ⟨[], .inl ⟨⟨none, 0, rfl⟩, rfl⟩⟩
  · subst h0
    exact ⟨[], .inl ⟨⟨_, cap, rfl⟩, rfl⟩⟩
  · have each : ∀ i, i < len → ∃ p : MsgV × MA, V.cut xs (o + i * 14) 14 = some (mcl p.1) ∧ MIs (allH W) p.1 p.2 := by
      intro i hi
      obtain ⟨cs, h1, h2, h3⟩ := hx i hi
      obtain ⟨m, M, rfl, h4⟩ := open_msg h2 h3
      exact ⟨(m, M), h1, h4⟩
    haveI : Inhabited (MsgV × MA) := ⟨(⟨0, (0, 0), (0, 0), .slice none 0 0, 0, fun _ => 0⟩, ⟨0, (0, 0), (0, 0), [], 0, fun _ => 0⟩)⟩
    obtain ⟨q, hq⟩ := Go.Deep.choose_lt each
    refine ⟨(List.range len).map fun i => (q i).2, .inr ⟨b, o, cap, xs, te, fr, by simp, hb, fun i hi => ?_⟩⟩
    have hi' : i < len := by simpa using hi
    exact ⟨(q i).1, (hq i hi').1, by simpa using (hq i hi').2⟩
end
end Go.Proofs.Ytlaanieheglnjaa

