/- Part of the proof that the statement named in the last file holds: lemmas of the prover's own. No conditions. -/
import Derived.Test.YtlaanieheglnjaaDA
import Derived.Test.YtlaanieheglnjaaVD
import Derived.Test.YtlaanieheglnjaaL20
namespace Go.Proofs
open Go Go.V
set_option maxRecDepth 100000
set_option linter.unusedVariables false

def mayA (M : MA) : Bool := mayB ⟨M.kind, M.dot, M.b, .slice none 0 0, M.seq, M.deps⟩ M.cmd.length
def newA (M : MA) (R : AR) (seq : Int) (deps : Nat → Int) : AR :=
  if M.kind = 1 then ⟨1, M.cmd, if seq > M.seq then seq else M.seq, vmax M.deps deps, M.b, M.b⟩ else
  if M.kind = 2 then ⟨2, M.cmd, M.seq, M.deps, M.b, M.b⟩ else
  if M.kind = 3 then ⟨3, M.cmd, M.seq, M.deps, mostB M.b R.b, mostB M.b R.a⟩ else { R with b := M.b }
def updT (T : Int × Int → AR) (d : Int × Int) (R : AR) : Int × Int → AR := fun x => if x = d then R else T x
theorem mayA_iff {M : MA} (h : mayA M = true) : (1 ≤ M.kind ∧ M.kind ≤ 4) ∧ dotB M.dot = true ∧ goodB M.b = true ∧ (∀ i, i < 7 → 0 ≤ M.deps i ∧ M.deps i ≤ 1000) ∧ (0 ≤ M.seq ∧ M.seq ≤ 1099511627776) ∧ M.cmd.length ≤ 300 ∧
    (M.kind = 4 → M.cmd = [] ∧ M.seq = 0 ∧ ∀ i, i < 7 → M.deps i = 0) := by
  simp only [mayA, mayB, Bool.and_eq_true, Bool.not_eq_true', Bool.or_eq_false_iff, decide_eq_false_iff_not, Bool.not_eq_false', contentB, decide_eq_true_eq, Bool.or_eq_true, depB_iff] at h
  obtain ⟨⟨h1, h2, h3, h4, h5, h6, h7, h8⟩, h9⟩ := h
  refine ⟨⟨by omega, by omega⟩, h3, h4, h5, ⟨h6, h7⟩, by omega, fun hk => ?_⟩
  rcases h9 with h9 | ⟨h9, h10, h11⟩
  · exact absurd hk h9
  · refine ⟨List.eq_nil_of_length_eq_zero (by omega), h10, ?_⟩
    simp only [zeroD, Bool.and_eq_true, decide_eq_true_eq] at h11
    intro i hi
    match i, hi with
    | 0, _ => exact h11.1 | 1, _ => exact h11.2.1 | 2, _ => exact h11.2.2.1 | 3, _ => exact h11.2.2.2.1
    | 4, _ => exact h11.2.2.2.2.1 | 5, _ => exact h11.2.2.2.2.2.1 | 6, _ => exact h11.2.2.2.2.2.2

theorem Tab.put {h : Nat → Option Obj} {ms : RM} {c : Nat} {T : Int × Int → AR} {B : Int} (ht : Tab h ms c T B) {d : Int × Int} {r : RecV} {R : AR} (hr : RIs h r R) (hd : dotB d = true) {B' : Int} (hB : B ≤ B') (hq : 0 ≤ R.seq ∧ R.seq ≤ B') (hl : R.cmd.length ≤ 300) :
    Tab h (MP.put ms d r c) (if (MP.get ms d).isSome then c else c + 1) (updT T d R) B' where
  get := fun x => by
    rw [get_put]
    unfold updT
    by_cases hx : x = d
    · simp only [hx, if_true]; exact .inl ⟨r, rfl, hr⟩
    · simp only [hx, if_false]; exact ht.get x
  key := fun x hx => by
    have : x.1 ∈ (MP.put ms d r c).map (·.1) := List.mem_map.2 ⟨x, hx, rfl⟩
    rw [keys_put] at this
    have old : ∀ k, k ∈ ms.map (·.1) → dotB k = true := fun k hk => by
      obtain ⟨y, hy, rfl⟩ := List.mem_map.1 hk
      exact ht.key y hy
    split at this
    · exact old _ this
    · rcases List.mem_append.1 this with h1 | h1
      · exact old _ h1
      · simp at h1; rw [h1]; exact hd
  nd := nodup_put ht.nd _ _ _
  ok := ht.ok.put _ _
  seq := fun x => by
    unfold updT
    split
    · exact hq
    · have := ht.seq x; omega
  len := fun x => by
    unfold updT
    split
    · exact hl
    · exact ht.len x
theorem put_len (ms : RM) (d : Int × Int) (r : RecV) (c : Nat) : (MP.put ms d r c).length ≤ ms.length + 1 := by
  rw [len_put]; split <;> omega

def DoPost (h : Nat → Option Obj) (ms : RM) (c : Nat) (T : Int × Int → AR) (B : Int) (M : MA) (x : SV) (H : List SO) : Prop :=
  (mayA M = false ∧ x = .tup [.agg zans, iv 1] ∧ H = [tbl 1, rmap ms c, .heap h]) ∨
  (mayA M = true ∧ ∃ ok r h', oldA M (T M.dot) = some ok ∧ x = .tup [.agg (acells ok r.b r), iv 0] ∧ RIs h' r (T M.dot) ∧ H = [tbl 1, rmap ms c, .heap h'] ∧ Sub h h') ∨
  (mayA M = true ∧ oldA M (T M.dot) = none ∧ ∃ seq deps, (M.kind = 1 → IsWould T M.dot seq deps) ∧ ∃ r ms' c' h', x = .tup [.agg (acells true r.b r), iv 0] ∧ RIs h' r (newA M (T M.dot) seq deps) ∧
    H = [tbl 1, rmap ms' c', .heap h'] ∧ Sub h h' ∧ Tab h' ms' c' (updT T M.dot (newA M (T M.dot) seq deps)) (B + 1) ∧ ms'.length ≤ ms.length + 1)

theorem s_Do (h : Nat → Option Obj) (ms : RM) (c : Nat) (T : Int × Int → AR) (B : Int) (ht : Tab h ms c T B) (hB : 1099511627776 ≤ B ∧ B ≤ 4611686018427387904) (m : MsgV) (M : MA) (hm : MIs h m M) :
    Ctr Try.prog F_inst_Table_Do [.ptr 0 0, .agg (mcells m)] [tbl 1, rmap ms c, .heap h] (DoPost h ms c T B M) := by
  obtain ⟨ma, mc, hmc⟩ := hm.cmd.shape
  have hm0 := hm
  obtain ⟨mk, md, mb, mcmd, mseq, mdeps⟩ := m
  obtain ⟨e1, e2, e3, e4, e5, e6⟩ := hm
  simp only at e1 e2 e3 e4 e5 e6 hmc
  subst hmc
  refine i_inst_Table_Do.spec follows ?_
  refine VCall.mk [] (s_inst_May ⟨mk, md, mb, .slice ma M.cmd.length mc, mseq, mdeps⟩ ma M.cmd.length mc rfl) ⟨rfl, rfl, rfl⟩ ?_
  rintro _ _ ⟨rfl, rfl⟩
  have hmay : mayB ⟨mk, md, mb, .slice ma M.cmd.length mc, mseq, mdeps⟩ M.cmd.length = mayA M := by
    subst e1 e2 e3 e5 e6; rfl
  rw [hmay]
  refine And.intro (fun h1 => ?_) (fun h1 => ?_)
  · have h1 : mayA M = false := by simpa using h1
    exact VRet.mk [0, 1, 2] (.tup [.agg zans, iv 1]) [tbl 1, rmap ms c, .heap h] ⟨rfl, rfl, rfl⟩ (.inl ⟨h1, rfl, rfl⟩)
  have h1 : mayA M = true := by simpa using h1
  obtain ⟨hk, hdot, hgood, hdep, hseq, hlen, hprep⟩ := mayA_iff h1
  have hat := ht.at M.dot
  rw [← e2] at hat
  have hpl : plain (.agg (rcells ((MP.get ms md).getD zeroV))) = some (encR ((MP.get ms md).getD zeroV)) := rfl
  refine Exists.intro (.agg (rcells ((MP.get ms md).getD zeroV))) (Exists.intro _ (Exists.intro _ (And.intro (lookR ms md) (And.intro hpl ?_))))
  refine And.intro rfl (And.intro rfl (And.intro rfl (And.intro ?_ ?_)))
  · exact Exists.intro (.agg (rcells ((MP.get ms md).getD zeroV))) (Exists.intro _ (Exists.intro _ (And.intro (lookR ms md) (And.intro hpl rfl))))
  obtain ⟨ra, rc, hrc⟩ := hat.cmd.shape
  have hgr : ∃ r0, (MP.get ms md).getD zeroV = r0 := ⟨_, rfl⟩
  obtain ⟨⟨rst, rcmd, rseq, rdeps, rb, raa⟩, hr0⟩ := hgr
  rw [hr0] at hat hrc ⊢
  simp only at hrc
  subst hrc
  have hml : (T M.dot).cmd.length ≤ 300 := ht.len _
  rw [← e2] at hml
  have e2 : md = M.dot := e2
  refine VCall.mk [0, 1, 2] (s_old h ms c _ M _ (T M.dot) hm0 (e2 ▸ hat) (by rw [← e2]; omega)) ⟨rfl, rfl, rfl⟩ ?_
  rintro _ _ (⟨ho, rfl, rfl⟩ | ⟨ok, v, h', ho, rfl, rfl, hs, hb⟩)
  rotate_left 1
  · obtain ⟨va, vc, rfl⟩ := hb.shape
    refine And.intro (fun _ => ?_) (fun h => absurd h (by decide))
    refine VRet.mk [0, 1, 2] (.tup [.agg (acells ok rb ⟨rst, .slice va (T M.dot).cmd.length vc, rseq, rdeps, rb, raa⟩), iv 0]) [tbl 1, rmap ms c, .heap h'] ⟨rfl, rfl, rfl⟩
      (.inr (.inl ⟨h1, ok, ⟨rst, .slice va (T M.dot).cmd.length vc, rseq, rdeps, rb, raa⟩, h', ho, rfl, ?_, rfl, hs⟩))
    have hat := e2 ▸ hat
    exact ⟨hat.st, hb, hat.seq, hat.deps, hat.b, hat.a⟩
  refine And.intro (fun h => absurd h (by decide)) (fun _ => ?_)
  refine VCall.mk [2] (s_CloneB h _ M.cmd e4 (by omega)) ⟨rfl, rfl, rfl⟩ ?_
  rintro _ _ ⟨v, h', rfl, rfl, hs, hb⟩
  obtain ⟨va, vc, rfl⟩ := hb.shape
  have htm := ht.mono hs
  have hk1 : mk = M.kind := e1
  refine And.intro (fun g1 => ?_) (fun g1 => ?_)
  · have g1 : mk = 1 := of_decide_eq_true g1
    refine VCall.mk [0, 1] (s_Would h' ms c T B htm hB.2 md) ⟨rfl, rfl, rfl⟩ ?_
    rintro _ _ ⟨seq, deps, rfl, rfl, hW, hWB⟩
    refine VCall.mk [] (s_vec_Merge mdeps deps) ⟨rfl, rfl, rfl⟩ ?_
    rintro _ _ ⟨rfl, rfl⟩
    refine And.intro rfl (And.intro rfl (And.intro rfl ?_))
    have hR : RIs h' (⟨1, .slice va M.cmd.length vc, if seq > mseq then seq else mseq, vmax mdeps deps, mb, mb⟩ : RecV) (newA M (T M.dot) seq deps) := by
      have hn : newA M (T M.dot) seq deps = ⟨1, M.cmd, if seq > M.seq then seq else M.seq, vmax M.deps deps, M.b, M.b⟩ := if_pos (hk1 ▸ g1)
      rw [hn]
      exact ⟨rfl, hb, by rw [← e5], by rw [← e6], e3, e3⟩
    have hN : (0 ≤ (newA M (T M.dot) seq deps).seq ∧ (newA M (T M.dot) seq deps).seq ≤ B + 1) ∧ (newA M (T M.dot) seq deps).cmd.length ≤ 300 := by
      have hn : newA M (T M.dot) seq deps = ⟨1, M.cmd, if seq > M.seq then seq else M.seq, vmax M.deps deps, M.b, M.b⟩ := if_pos (hk1 ▸ g1)
      rw [hn]
      refine ⟨?_, hlen⟩
      show 0 ≤ (if seq > M.seq then seq else M.seq) ∧ (if seq > M.seq then seq else M.seq) ≤ B + 1
      split <;> omega
    refine Exists.intro _ (Exists.intro _ (And.intro (update_is (encv := encR) kR ms c md (⟨1, .slice va M.cmd.length vc, if seq > mseq then seq else mseq, vmax mdeps deps, mb, mb⟩ : RecV)) ?_))
    refine VCall.mk [2] (s_inst_copied h' (⟨1, .slice va M.cmd.length vc, if seq > mseq then seq else mseq, vmax mdeps deps, mb, mb⟩ : RecV) (newA M (T M.dot) seq deps).cmd hR.cmd (by have := hN.2; omega)) ⟨rfl, rfl, rfl⟩ ?_
    rintro _ _ ⟨v2, h2, rfl, rfl, hs2, hb2⟩
    obtain ⟨wa, wc, rfl⟩ := hb2.shape
    refine And.intro rfl ?_
    refine VRet.mk [0, 1, 2] (.tup [.agg (acells true ((⟨1, .slice va M.cmd.length vc, if seq > mseq then seq else mseq, vmax mdeps deps, mb, mb⟩ : RecV)).b { (⟨1, .slice va M.cmd.length vc, if seq > mseq then seq else mseq, vmax mdeps deps, mb, mb⟩ : RecV) with cmd := .slice wa (newA M (T M.dot) seq deps).cmd.length wc }), iv 0]) [tbl 1, rmap (MP.put ms md (⟨1, .slice va M.cmd.length vc, if seq > mseq then seq else mseq, vmax mdeps deps, mb, mb⟩ : RecV) c) (if (MP.get ms md).isSome then c else c + 1), .heap h2] ⟨rfl, rfl, rfl⟩
      (.inr (.inr ⟨h1, ho, seq, deps, fun _ => e2 ▸ hW, { (⟨1, .slice va M.cmd.length vc, if seq > mseq then seq else mseq, vmax mdeps deps, mb, mb⟩ : RecV) with cmd := .slice wa (newA M (T M.dot) seq deps).cmd.length wc }, _, _, h2, rfl, ⟨hR.st, hb2, hR.seq, hR.deps, hR.b, hR.a⟩, rfl, hs.trans hs2, ?_, put_len _ _ _ _⟩))
    rw [← e2]
    exact (htm.mono hs2).put (by have := hR.mono hs2; rwa [← e2] at this) (by rw [e2]; exact hdot) (by omega) (by rw [e2]; exact hN.1) (by rw [e2]; exact hN.2)
  have g1 : mk ≠ 1 := of_decide_eq_false g1
  refine And.intro (fun g2 => ?_) (fun g2 => ?_)
  · have g2 : mk = 2 := of_decide_eq_true g2
    have hR : RIs h' (⟨2, .slice va M.cmd.length vc, mseq, mdeps, mb, mb⟩ : RecV) (newA M (T M.dot) 0 (fun _ => 0)) := by
      have hn : newA M (T M.dot) 0 (fun _ => 0) = ⟨2, M.cmd, M.seq, M.deps, M.b, M.b⟩ := (if_neg (hk1 ▸ g1)).trans (if_pos (hk1 ▸ g2))
      rw [hn]
      exact ⟨rfl, hb, e5, e6, e3, e3⟩
    have hN : (0 ≤ (newA M (T M.dot) 0 (fun _ => 0)).seq ∧ (newA M (T M.dot) 0 (fun _ => 0)).seq ≤ B + 1) ∧ (newA M (T M.dot) 0 (fun _ => 0)).cmd.length ≤ 300 := by
      have hn : newA M (T M.dot) 0 (fun _ => 0) = ⟨2, M.cmd, M.seq, M.deps, M.b, M.b⟩ := (if_neg (hk1 ▸ g1)).trans (if_pos (hk1 ▸ g2))
      rw [hn]
      exact ⟨⟨hseq.1, by have := hseq.2; show M.seq ≤ B + 1; omega⟩, hlen⟩
    refine Exists.intro _ (Exists.intro _ (And.intro (update_is (encv := encR) kR ms c md (⟨2, .slice va M.cmd.length vc, mseq, mdeps, mb, mb⟩ : RecV)) ?_))
    refine VCall.mk [2] (s_inst_copied h' (⟨2, .slice va M.cmd.length vc, mseq, mdeps, mb, mb⟩ : RecV) (newA M (T M.dot) 0 (fun _ => 0)).cmd hR.cmd (by have := hN.2; omega)) ⟨rfl, rfl, rfl⟩ ?_
    rintro _ _ ⟨v2, h2, rfl, rfl, hs2, hb2⟩
    obtain ⟨wa, wc, rfl⟩ := hb2.shape
    refine And.intro rfl ?_
    refine VRet.mk [0, 1, 2] (.tup [.agg (acells true ((⟨2, .slice va M.cmd.length vc, mseq, mdeps, mb, mb⟩ : RecV)).b { (⟨2, .slice va M.cmd.length vc, mseq, mdeps, mb, mb⟩ : RecV) with cmd := .slice wa (newA M (T M.dot) 0 (fun _ => 0)).cmd.length wc }), iv 0]) [tbl 1, rmap (MP.put ms md (⟨2, .slice va M.cmd.length vc, mseq, mdeps, mb, mb⟩ : RecV) c) (if (MP.get ms md).isSome then c else c + 1), .heap h2] ⟨rfl, rfl, rfl⟩
      (.inr (.inr ⟨h1, ho, 0, (fun _ => 0), fun hh => absurd (hk1.trans hh) g1, { (⟨2, .slice va M.cmd.length vc, mseq, mdeps, mb, mb⟩ : RecV) with cmd := .slice wa (newA M (T M.dot) 0 (fun _ => 0)).cmd.length wc }, _, _, h2, rfl, ⟨hR.st, hb2, hR.seq, hR.deps, hR.b, hR.a⟩, rfl, hs.trans hs2, ?_, put_len _ _ _ _⟩))
    rw [← e2]
    exact (htm.mono hs2).put (by have := hR.mono hs2; rwa [← e2] at this) (by rw [e2]; exact hdot) (by omega) (by rw [e2]; exact hN.1) (by rw [e2]; exact hN.2)
  have g2 : mk ≠ 2 := of_decide_eq_false g2
  refine And.intro (fun g3 => ?_) (fun g3 => ?_)
  · have g3 : mk = 3 := of_decide_eq_true g3
    refine And.intro ?_ ?_
    · refine And.intro rfl (And.intro rfl (And.intro rfl (And.intro rfl (?_))))
      refine And.intro ?_ ?_
      · refine VCall.mk [7] (s_ballot_Most mb rb) ⟨rfl, rfl, rfl⟩ ?_
        rintro _ _ ⟨rfl, rfl⟩
        refine And.intro rfl (And.intro rfl (And.intro rfl (And.intro rfl (?_))))
        refine And.intro rfl (And.intro rfl (?_))
        refine VCall.mk [8] (s_ballot_Most mb raa) ⟨rfl, rfl, rfl⟩ ?_
        rintro _ _ ⟨rfl, rfl⟩
        refine And.intro rfl (And.intro rfl (?_))
        have hR : RIs h' (⟨3, .slice va M.cmd.length vc, mseq, mdeps, mostB mb rb, mostB mb raa⟩ : RecV) (newA M (T M.dot) 0 (fun _ => 0)) := by
          have hn : newA M (T M.dot) 0 (fun _ => 0) = ⟨3, M.cmd, M.seq, M.deps, mostB M.b (T M.dot).b, mostB M.b (T M.dot).a⟩ := (if_neg (hk1 ▸ g1)).trans ((if_neg (hk1 ▸ g2)).trans (if_pos (hk1 ▸ g3)))
          rw [hn]
          have hb' : rb = (T M.dot).b := e2 ▸ hat.b
          have ha' : raa = (T M.dot).a := e2 ▸ hat.a
          refine ⟨rfl, hb, e5, e6, ?_, ?_⟩
          · show mostB mb rb = _; rw [hb', e3]
          · show mostB mb raa = _; rw [ha', e3]
        have hN : (0 ≤ (newA M (T M.dot) 0 (fun _ => 0)).seq ∧ (newA M (T M.dot) 0 (fun _ => 0)).seq ≤ B + 1) ∧ (newA M (T M.dot) 0 (fun _ => 0)).cmd.length ≤ 300 := by
          have hn : newA M (T M.dot) 0 (fun _ => 0) = ⟨3, M.cmd, M.seq, M.deps, mostB M.b (T M.dot).b, mostB M.b (T M.dot).a⟩ := (if_neg (hk1 ▸ g1)).trans ((if_neg (hk1 ▸ g2)).trans (if_pos (hk1 ▸ g3)))
          rw [hn]
          exact ⟨⟨hseq.1, by have := hseq.2; show M.seq ≤ B + 1; omega⟩, hlen⟩
        refine Exists.intro _ (Exists.intro _ (And.intro (update_is (encv := encR) kR ms c md (⟨3, .slice va M.cmd.length vc, mseq, mdeps, mostB mb rb, mostB mb raa⟩ : RecV)) ?_))
        refine VCall.mk [2] (s_inst_copied h' (⟨3, .slice va M.cmd.length vc, mseq, mdeps, mostB mb rb, mostB mb raa⟩ : RecV) (newA M (T M.dot) 0 (fun _ => 0)).cmd hR.cmd (by have := hN.2; omega)) ⟨rfl, rfl, rfl⟩ ?_
        rintro _ _ ⟨v2, h2, rfl, rfl, hs2, hb2⟩
        obtain ⟨wa, wc, rfl⟩ := hb2.shape
        refine And.intro rfl ?_
        refine VRet.mk [0, 1, 2] (.tup [.agg (acells true ((⟨3, .slice va M.cmd.length vc, mseq, mdeps, mostB mb rb, mostB mb raa⟩ : RecV)).b { (⟨3, .slice va M.cmd.length vc, mseq, mdeps, mostB mb rb, mostB mb raa⟩ : RecV) with cmd := .slice wa (newA M (T M.dot) 0 (fun _ => 0)).cmd.length wc }), iv 0]) [tbl 1, rmap (MP.put ms md (⟨3, .slice va M.cmd.length vc, mseq, mdeps, mostB mb rb, mostB mb raa⟩ : RecV) c) (if (MP.get ms md).isSome then c else c + 1), .heap h2] ⟨rfl, rfl, rfl⟩
          (.inr (.inr ⟨h1, ho, 0, (fun _ => 0), fun hh => absurd (hk1.trans hh) g1, { (⟨3, .slice va M.cmd.length vc, mseq, mdeps, mostB mb rb, mostB mb raa⟩ : RecV) with cmd := .slice wa (newA M (T M.dot) 0 (fun _ => 0)).cmd.length wc }, _, _, h2, rfl, ⟨hR.st, hb2, hR.seq, hR.deps, hR.b, hR.a⟩, rfl, hs.trans hs2, ?_, put_len _ _ _ _⟩))
        rw [← e2]
        exact (htm.mono hs2).put (by have := hR.mono hs2; rwa [← e2] at this) (by rw [e2]; exact hdot) (by omega) (by rw [e2]; exact hN.1) (by rw [e2]; exact hN.2)
      · refine And.intro rfl (And.intro rfl (?_))
        refine VCall.mk [7] (s_ballot_Most mb rb) ⟨rfl, rfl, rfl⟩ ?_
        rintro _ _ ⟨rfl, rfl⟩
        refine And.intro rfl (And.intro rfl (?_))
        refine VCall.mk [8] (s_ballot_Most mb raa) ⟨rfl, rfl, rfl⟩ ?_
        rintro _ _ ⟨rfl, rfl⟩
        refine And.intro rfl (And.intro rfl (?_))
        have hR : RIs h' (⟨3, .slice va M.cmd.length vc, mseq, mdeps, mostB mb rb, mostB mb raa⟩ : RecV) (newA M (T M.dot) 0 (fun _ => 0)) := by
          have hn : newA M (T M.dot) 0 (fun _ => 0) = ⟨3, M.cmd, M.seq, M.deps, mostB M.b (T M.dot).b, mostB M.b (T M.dot).a⟩ := (if_neg (hk1 ▸ g1)).trans ((if_neg (hk1 ▸ g2)).trans (if_pos (hk1 ▸ g3)))
          rw [hn]
          have hb' : rb = (T M.dot).b := e2 ▸ hat.b
          have ha' : raa = (T M.dot).a := e2 ▸ hat.a
          refine ⟨rfl, hb, e5, e6, ?_, ?_⟩
          · show mostB mb rb = _; rw [hb', e3]
          · show mostB mb raa = _; rw [ha', e3]
        have hN : (0 ≤ (newA M (T M.dot) 0 (fun _ => 0)).seq ∧ (newA M (T M.dot) 0 (fun _ => 0)).seq ≤ B + 1) ∧ (newA M (T M.dot) 0 (fun _ => 0)).cmd.length ≤ 300 := by
          have hn : newA M (T M.dot) 0 (fun _ => 0) = ⟨3, M.cmd, M.seq, M.deps, mostB M.b (T M.dot).b, mostB M.b (T M.dot).a⟩ := (if_neg (hk1 ▸ g1)).trans ((if_neg (hk1 ▸ g2)).trans (if_pos (hk1 ▸ g3)))
          rw [hn]
          exact ⟨⟨hseq.1, by have := hseq.2; show M.seq ≤ B + 1; omega⟩, hlen⟩
        refine Exists.intro _ (Exists.intro _ (And.intro (update_is (encv := encR) kR ms c md (⟨3, .slice va M.cmd.length vc, mseq, mdeps, mostB mb rb, mostB mb raa⟩ : RecV)) ?_))
        refine VCall.mk [2] (s_inst_copied h' (⟨3, .slice va M.cmd.length vc, mseq, mdeps, mostB mb rb, mostB mb raa⟩ : RecV) (newA M (T M.dot) 0 (fun _ => 0)).cmd hR.cmd (by have := hN.2; omega)) ⟨rfl, rfl, rfl⟩ ?_
        rintro _ _ ⟨v2, h2, rfl, rfl, hs2, hb2⟩
        obtain ⟨wa, wc, rfl⟩ := hb2.shape
        refine And.intro rfl ?_
        refine VRet.mk [0, 1, 2] (.tup [.agg (acells true ((⟨3, .slice va M.cmd.length vc, mseq, mdeps, mostB mb rb, mostB mb raa⟩ : RecV)).b { (⟨3, .slice va M.cmd.length vc, mseq, mdeps, mostB mb rb, mostB mb raa⟩ : RecV) with cmd := .slice wa (newA M (T M.dot) 0 (fun _ => 0)).cmd.length wc }), iv 0]) [tbl 1, rmap (MP.put ms md (⟨3, .slice va M.cmd.length vc, mseq, mdeps, mostB mb rb, mostB mb raa⟩ : RecV) c) (if (MP.get ms md).isSome then c else c + 1), .heap h2] ⟨rfl, rfl, rfl⟩
          (.inr (.inr ⟨h1, ho, 0, (fun _ => 0), fun hh => absurd (hk1.trans hh) g1, { (⟨3, .slice va M.cmd.length vc, mseq, mdeps, mostB mb rb, mostB mb raa⟩ : RecV) with cmd := .slice wa (newA M (T M.dot) 0 (fun _ => 0)).cmd.length wc }, _, _, h2, rfl, ⟨hR.st, hb2, hR.seq, hR.deps, hR.b, hR.a⟩, rfl, hs.trans hs2, ?_, put_len _ _ _ _⟩))
        rw [← e2]
        exact (htm.mono hs2).put (by have := hR.mono hs2; rwa [← e2] at this) (by rw [e2]; exact hdot) (by omega) (by rw [e2]; exact hN.1) (by rw [e2]; exact hN.2)
    · refine And.intro rfl (And.intro rfl (And.intro rfl (And.intro rfl (?_))))
      refine And.intro rfl (And.intro rfl (?_))
      refine VCall.mk [8] (s_ballot_Most mb rb) ⟨rfl, rfl, rfl⟩ ?_
      rintro _ _ ⟨rfl, rfl⟩
      refine And.intro rfl (And.intro rfl (?_))
      refine VCall.mk [7] (s_ballot_Most mb raa) ⟨rfl, rfl, rfl⟩ ?_
      rintro _ _ ⟨rfl, rfl⟩
      refine And.intro rfl (And.intro rfl (?_))
      have hR : RIs h' (⟨3, .slice va M.cmd.length vc, mseq, mdeps, mostB mb rb, mostB mb raa⟩ : RecV) (newA M (T M.dot) 0 (fun _ => 0)) := by
        have hn : newA M (T M.dot) 0 (fun _ => 0) = ⟨3, M.cmd, M.seq, M.deps, mostB M.b (T M.dot).b, mostB M.b (T M.dot).a⟩ := (if_neg (hk1 ▸ g1)).trans ((if_neg (hk1 ▸ g2)).trans (if_pos (hk1 ▸ g3)))
        rw [hn]
        have hb' : rb = (T M.dot).b := e2 ▸ hat.b
        have ha' : raa = (T M.dot).a := e2 ▸ hat.a
        refine ⟨rfl, hb, e5, e6, ?_, ?_⟩
        · show mostB mb rb = _; rw [hb', e3]
        · show mostB mb raa = _; rw [ha', e3]
      have hN : (0 ≤ (newA M (T M.dot) 0 (fun _ => 0)).seq ∧ (newA M (T M.dot) 0 (fun _ => 0)).seq ≤ B + 1) ∧ (newA M (T M.dot) 0 (fun _ => 0)).cmd.length ≤ 300 := by
        have hn : newA M (T M.dot) 0 (fun _ => 0) = ⟨3, M.cmd, M.seq, M.deps, mostB M.b (T M.dot).b, mostB M.b (T M.dot).a⟩ := (if_neg (hk1 ▸ g1)).trans ((if_neg (hk1 ▸ g2)).trans (if_pos (hk1 ▸ g3)))
        rw [hn]
        exact ⟨⟨hseq.1, by have := hseq.2; show M.seq ≤ B + 1; omega⟩, hlen⟩
      refine Exists.intro _ (Exists.intro _ (And.intro (update_is (encv := encR) kR ms c md (⟨3, .slice va M.cmd.length vc, mseq, mdeps, mostB mb rb, mostB mb raa⟩ : RecV)) ?_))
      refine VCall.mk [2] (s_inst_copied h' (⟨3, .slice va M.cmd.length vc, mseq, mdeps, mostB mb rb, mostB mb raa⟩ : RecV) (newA M (T M.dot) 0 (fun _ => 0)).cmd hR.cmd (by have := hN.2; omega)) ⟨rfl, rfl, rfl⟩ ?_
      rintro _ _ ⟨v2, h2, rfl, rfl, hs2, hb2⟩
      obtain ⟨wa, wc, rfl⟩ := hb2.shape
      refine And.intro rfl ?_
      refine VRet.mk [0, 1, 2] (.tup [.agg (acells true ((⟨3, .slice va M.cmd.length vc, mseq, mdeps, mostB mb rb, mostB mb raa⟩ : RecV)).b { (⟨3, .slice va M.cmd.length vc, mseq, mdeps, mostB mb rb, mostB mb raa⟩ : RecV) with cmd := .slice wa (newA M (T M.dot) 0 (fun _ => 0)).cmd.length wc }), iv 0]) [tbl 1, rmap (MP.put ms md (⟨3, .slice va M.cmd.length vc, mseq, mdeps, mostB mb rb, mostB mb raa⟩ : RecV) c) (if (MP.get ms md).isSome then c else c + 1), .heap h2] ⟨rfl, rfl, rfl⟩
        (.inr (.inr ⟨h1, ho, 0, (fun _ => 0), fun hh => absurd (hk1.trans hh) g1, { (⟨3, .slice va M.cmd.length vc, mseq, mdeps, mostB mb rb, mostB mb raa⟩ : RecV) with cmd := .slice wa (newA M (T M.dot) 0 (fun _ => 0)).cmd.length wc }, _, _, h2, rfl, ⟨hR.st, hb2, hR.seq, hR.deps, hR.b, hR.a⟩, rfl, hs.trans hs2, ?_, put_len _ _ _ _⟩))
      rw [← e2]
      exact (htm.mono hs2).put (by have := hR.mono hs2; rwa [← e2] at this) (by rw [e2]; exact hdot) (by omega) (by rw [e2]; exact hN.1) (by rw [e2]; exact hN.2)
  have g3 : mk ≠ 3 := of_decide_eq_false g3
  have hR : RIs h' (⟨rst, .slice ra (T md).cmd.length rc, rseq, rdeps, mb, raa⟩ : RecV) (newA M (T M.dot) 0 (fun _ => 0)) := by
    have hn : newA M (T M.dot) 0 (fun _ => 0) = { T M.dot with b := M.b } := (if_neg (hk1 ▸ g1)).trans ((if_neg (hk1 ▸ g2)).trans (if_neg (hk1 ▸ g3)))
    rw [hn]
    have hat := (e2 ▸ hat).mono hs
    exact ⟨hat.st, e2 ▸ hat.cmd, hat.seq, hat.deps, e3, hat.a⟩
  have hN : (0 ≤ (newA M (T M.dot) 0 (fun _ => 0)).seq ∧ (newA M (T M.dot) 0 (fun _ => 0)).seq ≤ B + 1) ∧ (newA M (T M.dot) 0 (fun _ => 0)).cmd.length ≤ 300 := by
    have hn : newA M (T M.dot) 0 (fun _ => 0) = { T M.dot with b := M.b } := (if_neg (hk1 ▸ g1)).trans ((if_neg (hk1 ▸ g2)).trans (if_neg (hk1 ▸ g3)))
    rw [hn]
    have h9 := ht.seq M.dot
    exact ⟨⟨h9.1, by have := h9.2; show (T M.dot).seq ≤ B + 1; omega⟩, ht.len _⟩
  refine Exists.intro _ (Exists.intro _ (And.intro (update_is (encv := encR) kR ms c md (⟨rst, .slice ra (T md).cmd.length rc, rseq, rdeps, mb, raa⟩ : RecV)) ?_))
  refine VCall.mk [2] (s_inst_copied h' (⟨rst, .slice ra (T md).cmd.length rc, rseq, rdeps, mb, raa⟩ : RecV) (newA M (T M.dot) 0 (fun _ => 0)).cmd hR.cmd (by have := hN.2; omega)) ⟨rfl, rfl, rfl⟩ ?_
  rintro _ _ ⟨v2, h2, rfl, rfl, hs2, hb2⟩
  obtain ⟨wa, wc, rfl⟩ := hb2.shape
  refine And.intro rfl ?_
  refine VRet.mk [0, 1, 2] (.tup [.agg (acells true ((⟨rst, .slice ra (T md).cmd.length rc, rseq, rdeps, mb, raa⟩ : RecV)).b { (⟨rst, .slice ra (T md).cmd.length rc, rseq, rdeps, mb, raa⟩ : RecV) with cmd := .slice wa (newA M (T M.dot) 0 (fun _ => 0)).cmd.length wc }), iv 0]) [tbl 1, rmap (MP.put ms md (⟨rst, .slice ra (T md).cmd.length rc, rseq, rdeps, mb, raa⟩ : RecV) c) (if (MP.get ms md).isSome then c else c + 1), .heap h2] ⟨rfl, rfl, rfl⟩
    (.inr (.inr ⟨h1, ho, 0, (fun _ => 0), fun hh => absurd (hk1.trans hh) g1, { (⟨rst, .slice ra (T md).cmd.length rc, rseq, rdeps, mb, raa⟩ : RecV) with cmd := .slice wa (newA M (T M.dot) 0 (fun _ => 0)).cmd.length wc }, _, _, h2, rfl, ⟨hR.st, hb2, hR.seq, hR.deps, hR.b, hR.a⟩, rfl, hs.trans hs2, ?_, put_len _ _ _ _⟩))
  rw [← e2]
  exact (htm.mono hs2).put (by have := hR.mono hs2; rwa [← e2] at this) (by rw [e2]; exact hdot) (by omega) (by rw [e2]; exact hN.1) (by rw [e2]; exact hN.2)
end Go.Proofs

namespace Go.Proofs
open Go Go.V
set_option maxRecDepth 100000
set_option linter.unusedVariables false

theorem s_New : Ctr Try.prog F_inst_New [] [] (fun x H => x = .ptr 0 0 ∧ H = [tbl 1, rmap [] 0]) := by
  refine i_inst_New.spec follows ?_
  exact VRet.mk [1, 0] (.ptr 0 0) [tbl 1, rmap [] 0] ⟨rfl, rfl, rfl⟩ ⟨rfl, rfl⟩
theorem Tab.nil (h : Nat → Option Obj) {B : Int} (hB : 0 ≤ B) : Tab h [] 0 (fun _ => zeroA) B where
  get := fun d => .inr ⟨rfl, rfl⟩
  key := by simp
  nd := by simp
  ok := MOK.nil 0
  seq := fun d => ⟨Int.le_refl 0, hB⟩
  len := fun d => Nat.zero_le _

theorem s_Rec (h : Nat → Option Obj) (ms : RM) (c : Nat) (T : Int × Int → AR) (B : Int) (ht : Tab h ms c T B) (d : Int × Int) :
    Ctr Try.prog F_inst_Table_Rec [.ptr 0 0, .agg (dcells d.1 d.2)] [tbl 1, rmap ms c, .heap h] (fun x H => ∃ r h', x = .agg (rcells r) ∧ RIs h' r (T d) ∧ H = [tbl 1, rmap ms c, .heap h'] ∧ Sub h h') := by
  have hat := ht.at d
  have hpl : plain (.agg (rcells ((MP.get ms d).getD zeroV))) = some (encR ((MP.get ms d).getD zeroV)) := rfl
  refine i_inst_Table_Rec.spec follows ?_
  refine Exists.intro (.agg (rcells ((MP.get ms d).getD zeroV))) (Exists.intro _ (Exists.intro _ (And.intro (lookR ms d) (And.intro hpl ?_))))
  refine VCall.mk [2] (s_inst_copied h ((MP.get ms d).getD zeroV) (T d).cmd hat.cmd (by have := ht.len d; omega)) ⟨rfl, rfl, rfl⟩ ?_
  rintro _ _ ⟨v, h', rfl, rfl, hs, hb⟩
  obtain ⟨va, vc, rfl⟩ := hb.shape
  exact VRet.mk [0, 1, 2] (.agg (rcells { (MP.get ms d).getD zeroV with cmd := .slice va (T d).cmd.length vc })) [tbl 1, rmap ms c, .heap h'] ⟨rfl, rfl, rfl⟩
    ⟨_, h', rfl, ⟨hat.st, hb, hat.seq, hat.deps, hat.b, hat.a⟩, rfl, hs⟩

/-! ### Strings and bytes -/
def strOf (l : List Int) : ByteArray := ⟨(l.map fun n => UInt8.ofNat n.toNat).toArray⟩
theorem strOf_size (l : List Int) : (strOf l).size = l.length := by simp [strOf, ByteArray.size]
theorem strOf_cells {l : List Int} (h : ∀ b ∈ l, 0 ≤ b ∧ b < 256) : (strOf l).data.toList.map (fun b => Value.int .u8 b.toNat) = l.map (Value.int .u8) := by
  simp only [strOf, List.map_map]
  apply List.map_congr_left
  intro b hb
  have := h b hb
  simp only [Function.comp_apply, UInt8.toNat_ofNat']
  congr 1
  omega
theorem strOf_inj {l l' : List Int} (h : ∀ b ∈ l, 0 ≤ b ∧ b < 256) (h' : ∀ b ∈ l', 0 ≤ b ∧ b < 256) : ((strOf l).toList == (strOf l').toList) = decide (l = l') := by
  by_cases e : l = l'
  · subst e; simp
  · rw [decide_eq_false e, Bool.eq_false_iff, Ne, beq_iff_eq]
    intro e2
    have e3 : (strOf l).data.toList = (strOf l').data.toList := by
      rw [← ByteArray.toList_eq, ← ByteArray.toList_eq]; exact e2
    have := congrArg (List.map fun b : UInt8 => Value.int .u8 b.toNat) e3
    rw [strOf_cells h, strOf_cells h'] at this
    exact e (List.map_inj_right (fun a b hab => by cases hab; rfl) |>.1 this)

theorem s_bytes_Equal (h : Nat → Option Obj) (v v' : Value) (l l' : List Int) (hb : ByIs h v l) (hb' : ByIs h v' l') :
    Ctr Try.prog F_bytes_Equal [.raw v, .raw v'] [.heap h] (fun x H => x = bv (decide (l = l')) ∧ H = [.heap h]) := by
  have key : VRet 1 (bv ((strOf l).toList == (strOf l').toList)) [.heap h] (fun x H => x = bv (decide (l = l')) ∧ H = [.heap h]) :=
    VRet.mk [0] (bv _) [.heap h] ⟨rfl, rfl, rfl⟩ ⟨by rw [strOf_inj hb.1 hb'.1], rfl⟩
  obtain ⟨q, hb⟩ := hb
  obtain ⟨q', hb'⟩ := hb'
  refine i_bytes_Equal.spec follows ?_
  rcases hb with ⟨rfl, rfl⟩ | ⟨a, n, c, rfl, hn, hR⟩ <;> rcases hb' with ⟨rfl, rfl⟩ | ⟨a', n', c', rfl, hn', hR'⟩
  · exact key
  · refine Exists.intro (strOf l') (And.intro ⟨by rw [strOf_cells q']; exact hR'.b (j := 0) rfl, (strOf_size _).trans hn'⟩ ?_)
    exact key
  · refine Exists.intro (strOf l) (And.intro ⟨by rw [strOf_cells q]; exact hR.b (j := 0) rfl, (strOf_size _).trans hn⟩ ?_)
    exact key
  · refine Exists.intro (strOf l) (And.intro ⟨by rw [strOf_cells q]; exact hR.b (j := 0) rfl, (strOf_size _).trans hn⟩ ?_)
    refine Exists.intro (strOf l') (And.intro ⟨by rw [strOf_cells q']; exact hR'.b (j := 0) rfl, (strOf_size _).trans hn'⟩ ?_)
    exact key

def eqDep (d d' : Nat → Int) : Bool := decide (d 0 = d' 0) && (decide (d 1 = d' 1) && (decide (d 2 = d' 2) && (decide (d 3 = d' 3) && (decide (d 4 = d' 4) && (decide (d 5 = d' 5) && decide (d 6 = d' 6))))))
theorem eqDep_iff {d d' : Nat → Int} : eqDep d d' = true ↔ ∀ i, i < 7 → d i = d' i := by
  simp only [eqDep, Bool.and_eq_true, decide_eq_true_eq]
  constructor
  · rintro ⟨h0, h1, h2, h3, h4, h5, h6⟩ i hi
    match i, hi with | 0, _ => exact h0 | 1, _ => exact h1 | 2, _ => exact h2 | 3, _ => exact h3 | 4, _ => exact h4 | 5, _ => exact h5 | 6, _ => exact h6
  · intro h
    exact ⟨h 0 (by omega), h 1 (by omega), h 2 (by omega), h 3 (by omega), h 4 (by omega), h 5 (by omega), h 6 (by omega)⟩
def eqB (b b' : Int × Int) : Bool := decide (b.1 = b'.1) && decide (b.2 = b'.2)
theorem eqB_iff {b b' : Int × Int} : eqB b b' = true ↔ b = b' := by simp [eqB, Prod.ext_iff]
def sameR (R S : AR) : Bool := decide (R.st = S.st) && (decide (R.cmd = S.cmd) && (decide (R.seq = S.seq) && (eqDep R.deps S.deps && (eqB R.b S.b && eqB R.a S.a))))
theorem s_Same (h : Nat → Option Obj) (r s : RecV) (R S : AR) (hr : RIs h r R) (hs : RIs h s S) :
    Ctr Try.prog F_inst_Same [.agg (rcells r), .agg (rcells s)] [.heap h] (fun x H => x = bv (sameR R S) ∧ H = [.heap h]) := by
  obtain ⟨ra, rc, hrc⟩ := hr.cmd.shape
  obtain ⟨sa, sc, hsc⟩ := hs.cmd.shape
  have hE := s_bytes_Equal h r.cmd s.cmd R.cmd S.cmd hr.cmd hs.cmd
  obtain ⟨rst, rcmd, rseq, rdeps, rb, raa⟩ := r
  obtain ⟨sst, scmd, sseq, sdeps, sb, saa⟩ := s
  obtain ⟨f1, f2, f3, f4, f5, f6⟩ := hr
  obtain ⟨g1, g2, g3, g4, g5, g6⟩ := hs
  simp only at f1 f2 f3 f4 f5 f6 g1 g2 g3 g4 g5 g6 hrc hsc hE
  subst hrc hsc
  have fin : ∀ (x : Bool) (b1 b2 : SO), sameR R S = x → VRet 1 (bv x) [.heap h, b1, b2] (fun x H => x = bv (sameR R S) ∧ H = [.heap h]) := by
    intro x b1 b2 hx
    exact VRet.mk [0] (bv x) [.heap h] ⟨rfl, rfl, rfl⟩ ⟨by rw [hx], rfl⟩
  refine i_inst_Same.spec follows ?_
  refine And.intro (fun h1 => ?_) (fun h1 => ?_)
  rotate_left 1
  · exact fin _ _ _ (by simp [sameR, ← f1, ← g1, of_decide_eq_false h1])
  have k1 : rst = sst := of_decide_eq_true h1
  refine VCall.mk [0] hE ⟨rfl, rfl, rfl⟩ ?_
  rintro _ _ ⟨rfl, rfl⟩
  refine And.intro (fun h2 => ?_) (fun h2 => ?_)
  rotate_left 1
  · exact fin _ _ _ (by simp [sameR, of_decide_eq_false h2])
  have k2 := of_decide_eq_true h2
  refine And.intro (fun h3 => ?_) (fun h3 => ?_)
  rotate_left 1
  · exact fin _ _ _ (by simp [sameR, ← f3, ← g3, of_decide_eq_false h3])
  have k3 : rseq = sseq := of_decide_eq_true h3
  refine And.intro (fun h4 => ?_) (fun h4 => ?_)
  rotate_left 1
  · have h4 : eqDep rdeps sdeps = false := h4
    exact fin _ _ _ (by rw [f4, g4] at h4; simp [sameR, h4])
  have k4 : eqDep rdeps sdeps = true := h4
  refine And.intro (fun h5 => ?_) (fun h5 => ?_)
  rotate_left 1
  · have h5 : eqB rb sb = false := h5
    exact fin _ _ _ (by rw [f5, g5] at h5; simp [sameR, h5])
  have k5 : eqB rb sb = true := h5
  refine fin _ _ _ ?_
  rw [f1, g1] at k1; rw [f3, g3] at k3; rw [f4, g4] at k4; rw [f5, g5] at k5
  show sameR R S = eqB raa saa
  rw [f6, g6]
  simp [sameR, k1, k2, k3, k4, k5]
end Go.Proofs

namespace Go.Proofs
open Go Go.V
set_option maxRecDepth 100000
set_option linter.unusedVariables false

abbrev mcl (m : MsgV) : List Value := [.int .i64 m.kind, .int .i64 m.dot.1, .int .i64 m.dot.2, .int .i64 m.b.1, .int .i64 m.b.2, m.cmd, .int .i64 m.seq, .int .i64 (m.deps 0), .int .i64 (m.deps 1), .int .i64 (m.deps 2), .int .i64 (m.deps 3), .int .i64 (m.deps 4), .int .i64 (m.deps 5), .int .i64 (m.deps 6)]
theorem MIs.mono {h h' : Nat → Option Obj} {m : MsgV} {M : MA} (hm : MIs h m M) (hs : Sub h h') : MIs h' m M := { hm with cmd := hm.cmd.mono hs }
/-- Messages behind a slice. -/
def MsgsIs (h : Nat → Option Obj) (v : Value) (L : List MA) : Prop := ((∃ a c, v = .slice a 0 c) ∧ L = []) ∨
  ∃ (b o c : Nat) (xs : List Value) (e : TypeId) (fr : Nat × Nat), v = .slice (some ⟨b, o, none⟩) L.length c ∧ h b = some (.cells xs.toArray e fr) ∧
    ∀ i (hi : i < L.length), ∃ m, V.cut xs (o + i * 14) 14 = some (mcl m) ∧ MIs h m L[i]
theorem MsgsIs.mono {h h' : Nat → Option Obj} {v : Value} {L : List MA} (hv : MsgsIs h v L) (hs : Sub h h') : MsgsIs h' v L := by
  rcases hv with h1 | ⟨b, o, c, xs, e, fr, h1, h2, h3⟩
  · exact .inl h1
  · refine .inr ⟨b, o, c, xs, e, fr, h1, hs _ _ h2, fun i hi => ?_⟩
    obtain ⟨m, h4, h5⟩ := h3 i hi
    exact ⟨m, h4, h5.mono hs⟩
theorem MsgsIs.shape {h : Nat → Option Obj} {v : Value} {L : List MA} (hv : MsgsIs h v L) : ∃ a c, v = .slice a L.length c := by
  rcases hv with ⟨⟨a, c, rfl⟩, rfl⟩ | ⟨b, o, c, xs, e, fr, rfl, _⟩
  · exact ⟨a, c, rfl⟩
  · exact ⟨_, c, rfl⟩
theorem MsgsIs.at {h : Nat → Option Obj} {a : Option Addr} {n c : Nat} {L : List MA} (hv : MsgsIs h (.slice a n c) L) {i : Nat} (hi : i < L.length) :
    ∃ (b o : Nat) (xs : List Value) (e : TypeId) (fr : Nat × Nat) (m : MsgV), a = some ⟨b, o, none⟩ ∧ h b = some (.cells xs.toArray e fr) ∧ V.cut xs (o + i * 14) 14 = some (mcl m) ∧ MIs h m L[i] := by
  rcases hv with ⟨h1, rfl⟩ | ⟨b, o, c, xs, e, fr, h1, h2, h3⟩
  · simp at hi
  · obtain ⟨m, h4, h5⟩ := h3 i hi
    cases h1
    exact ⟨b, o, xs, e, fr, m, rfl, h2, h4, h5⟩
theorem cut_one {xs : List Value} {o n : Nat} {l : List Value} (h : V.cut xs o n = some l) (j : Nat) (hj : j < n) : xs[o + j]? = l[j]? := ((cut_spec h).2 j hj).symm
theorem cut_sub {xs : List Value} {o n : Nat} {l : List Value} (h : V.cut xs o n = some l) (j k : Nat) (hk : j + k ≤ n) : V.cut xs (o + j) k = some ((l.drop j).take k) := by
  obtain ⟨h1, h2⟩ := cut_spec h
  by_cases h0 : k = 0
  · subst h0
    simp only [List.take_zero]
    cases xs <;> cases (o + j) <;> rfl
  · have hlen : o + j + k ≤ xs.length := by
      have h3 := h2 (j + k - 1) (by omega)
      have h4 : j + k - 1 < l.length := by omega
      rw [List.getElem?_eq_getElem h4] at h3
      have := (List.getElem?_eq_some_iff.1 h3.symm).1
      omega
    rw [cut_take xs (o + j) k hlen]
    congr 1
    apply List.ext_getElem?
    intro i
    by_cases hi : i < k
    · rw [List.getElem?_take_of_lt hi, List.getElem?_drop, List.getElem?_take_of_lt hi, List.getElem?_drop, h2 (j + i) (by omega)]
      congr 1; omega
    · rw [List.getElem?_eq_none (by simp; omega), List.getElem?_eq_none (by simp; omega)]

def lightB (L : List MA) : Bool := decide (L.length ≤ 40) && L.all fun M => decide (M.cmd.length ≤ 350)
theorem s_light (h : Nat → Option Obj) (v : Value) (L : List MA) (hv : MsgsIs h v L) : Ctr Try.prog F_rostrumlaw20_light [.raw v] [.heap h] (fun x H => x = bv (lightB L) ∧ H = [.heap h]) := by
  obtain ⟨a, c, rfl⟩ := hv.shape
  refine i_rostrumlaw20_light.spec follows ?_
  refine And.intro (fun h1 => ?_) (fun h1 => ?_)
  · have h1 := of_decide_eq_true h1
    refine VRet.mk [0] (bv false) [.heap h] ⟨rfl, rfl, rfl⟩ ⟨?_, rfl⟩
    have : ¬ L.length ≤ 40 := by omega
    simp [lightB, this]
  have h1 := of_decide_eq_false h1
  have h40 : L.length ≤ 40 := by omega
  refine VLoop.mk Nat (fun i => [(0, .raw (.slice a L.length c)), (3, iv i)]) (fun i => [.heap h]) (fun i => i ≤ L.length ∧ ∀ j (hj : j < L.length), j < i → L[j].cmd.length ≤ 350) (fun i => L.length - i) 0 [0]
    ⟨⟨Nat.zero_le _, fun j _ hj => by omega⟩, rfl, rfl, rfl⟩ ?_
  rintro i ⟨hi, hd⟩ g
  refine And.intro (fun h2 => ?_) (fun h2 => ?_)
  · have h2 := of_decide_eq_true h2
    have hil : i < L.length := by omega
    have hw : IntKind.i64.wrap ((i : Int) + 1) = ((i + 1 : Nat) : Int) := wrap64 (by omega)
    obtain ⟨b, o, xs, e, fr, m, rfl, hh, hc, hm⟩ := hv.at hil
    obtain ⟨ma, mc, hmc⟩ := hm.cmd.shape
    have h5 : xs[o + (i : Int).toNat * 14 + 5]? = some (.slice ma L[i].cmd.length mc) := by
      rw [Int.toNat_natCast, cut_one hc 5 (by omega), ← hmc]; rfl
    refine And.intro ⟨Int.natCast_nonneg i, h2⟩ ?_
    refine Exists.intro 0 (Exists.intro xs (Exists.intro e (Exists.intro fr (And.intro hh (Exists.intro _ (And.intro h5 ?_))))))
    refine And.intro (fun h3 => ?_) (fun h3 => ?_)
    · have h3 := of_decide_eq_true h3
      refine VRet.mk [0] (bv false) [.heap h] ⟨rfl, rfl, rfl⟩ ⟨?_, rfl⟩
      have : lightB L = false := by
        rw [Bool.eq_false_iff]
        intro hl
        simp only [lightB, Bool.and_eq_true, List.all_eq_true, decide_eq_true_eq] at hl
        have := hl.2 L[i] (List.getElem_mem hil)
        omega
      rw [this]
    · have h3 := of_decide_eq_false h3
      refine Exists.intro _ (And.intro hw ?_)
      refine Exists.intro (i + 1) (Exists.intro [0] (And.intro ⟨⟨hil, fun j hj hji => ?_⟩, by omega⟩ ⟨rfl, rfl, rfl⟩))
      by_cases hq : j = i
      · subst hq; omega
      · exact hd j hj (by omega)
  · have h2 := of_decide_eq_false h2
    refine VRet.mk [0] (bv true) [.heap h] ⟨rfl, rfl, rfl⟩ ⟨?_, rfl⟩
    have : lightB L = true := by
      simp only [lightB, Bool.and_eq_true, List.all_eq_true, decide_eq_true_eq]
      refine ⟨h40, fun M hM => ?_⟩
      obtain ⟨j, hj, rfl⟩ := List.mem_iff_getElem.1 hM
      exact hd j hj (by omega)
    rw [this]
end Go.Proofs

namespace Go.Proofs
open Go Go.V
set_option maxRecDepth 100000
set_option linter.unusedVariables false

abbrev dcl (d : Int × Int) : List Value := [.int .i64 d.1, .int .i64 d.2]
abbrev dsv (d : Int × Int) : SV := .agg (dcells d.1 d.2)
theorem el_Dot : Elem Try.prog T_api_Dot (some 2) 2 16 [.int .i64 0, .int .i64 0] dsv dcl where
  shape := by kernel_rfl
  size := by kernel_rfl
  bytes := by kernel_rfl
  zero := by kernel_rfl
  zlen := rfl
  pos := ⟨by omega, by omega⟩
  sv_cells := fun x => .inr ⟨2, rfl, rfl⟩
  len := fun x => rfl
  ok := fun x => rfl
theorem ap_Dot : IsAp Try.prog F_slices_AppendSeq_sl_api_Dot_api_Dot T_sl_api_Dot T_api_Dot (some 2) 2 16 [.int .i64 0, .int .i64 0] [.int .i64 0, .int .i64 0] :=
  ⟨_, _, _, _, _, _, _, _, _, _, _, _, _, rfl, rfl, by kernel_rfl, by kernel_rfl, by kernel_rfl, by kernel_rfl, by kernel_rfl, rfl, rfl⟩
theorem it_Dot : IsIt Try.prog F_maps_Keys_map_api_Dot_inst_Rec_api_Dot_inst_Rec_1 T_api_Dot (some 2) [.int .i64 0, .int .i64 0] 0 :=
  ⟨_, _, _, _, _, _, _, _, _, _, _, rfl, rfl, by kernel_rfl, by kernel_rfl, by kernel_rfl, by kernel_rfl, rfl, rfl⟩
abbrev T_boxD : TypeId := T_map_api_Dot_inst_Rec
def kOf (e : MapEntry) : Int × Int := match e.key with
  | .agg ⟨[.int _ a, .int _ b]⟩ => (a, b)
  | _ => (0, 0)
def keysOf (ms : RM) : List (Int × Int) := ms.map (·.1)
theorem Gives.weak {α : Type} {P : Program} {f : FuncId} {caps : List SV} {H : List SO} {enc : α → Value} {S S' : List α → Prop} {N : Nat} (h : Gives P f caps H enc S N) (hS : ∀ xs, S xs → S' xs) : Gives P f caps H enc S' N := by
  intro l J ρ g W h1 h2 h3 h4
  refine Calls.mono (h l J ρ g W h1 h2 h3 h4) ?_
  rintro e w' ⟨hv, xs, g', h5, h6, h7⟩
  exact ⟨hv, xs, g', hS xs h5, h6, h7⟩
theorem Ctr.weak {P : Program} {f : FuncId} {args : List SV} {H : List SO} {Post Post' : SV → List SO → Prop} (h : Ctr P f args H Post) (hp : ∀ v H', Post v H' → Post' v H') : Ctr P f args H Post' := by
  intro ρ g w h1 h2
  refine Calls.mono (h ρ g w h1 h2) ?_
  rintro e w' ⟨ρ', v, H', h3, h4, h5, h6, h7, h8⟩
  exact ⟨ρ', v, H', h3, h4, h5, h6, h7, hp _ _ h8⟩
theorem gv_Keys (ms : RM) (c : Nat) (hm : MOK ms c) : Gives Try.prog F_maps_Keys_map_api_Dot_inst_Rec_api_Dot_inst_Rec_1 [.ptr 0 0] [.cells [.mp 1] T_boxD, rmap ms c] (fun x => V.val (fun _ => none) (dsv x)) (fun xs => xs.Perm (keysOf ms)) ms.length := by
  have e1 : (ents encD encR ms).length = ms.length := by simp [ents]
  have e2 : (ents encD encR ms).map kOf = keysOf ms := by
    simp only [ents, keysOf, List.map_map]
    exact List.map_congr_left fun x _ => rfl
  have h := it_gives el_Dot it_Dot (tB := T_boxD) (es := ents encD encR ms) (c := c) kOf ?_ ?_ ?_
  · rw [e1] at h
    refine Gives.weak h ?_
    rintro xs ⟨order, h1, rfl⟩
    rw [← e2]; exact h1.map _
  · intro e he
    obtain ⟨x, _, rfl⟩ := List.mem_map.1 he
    rfl
  · intro e he
    obtain ⟨x, hx, rfl⟩ := List.mem_map.1 he
    exact hm.1 x hx
  · simp only [ents, List.map_map]
    exact hm.2
/-- A row of dots in cells. -/
def Row (xs : List Value) (o c : Nat) (d : List (Int × Int)) : Prop := d.length ≤ c ∧ o + c * 2 ≤ xs.length ∧ (xs.drop o).take (d.length * 2) = d.flatMap dcl
/-- A row's dot. -/
theorem Row.cut {xs : List Value} {o c : Nat} {d : List (Int × Int)} (h : Row xs o c d) (i : Nat) (hi : i < d.length) : V.cut xs (o + i * 2) 2 = some (dcl d[i]) := by
  obtain ⟨h1, h2, h3⟩ := h
  rw [cut_take xs _ 2 (by omega)]
  congr 1
  have hk : ∀ x : Int × Int, (dcl x).length = 2 := fun _ => rfl
  apply List.ext_getElem?
  intro j
  by_cases hj : j < 2
  · rw [List.getElem?_take_of_lt hj, List.getElem?_drop]
    have h4 := flatMap_get hk d (i * 2 + j) (by omega)
    rw [← h3, List.getElem?_take_of_lt (by omega), List.getElem?_drop] at h4
    rw [show o + i * 2 + j = o + (i * 2 + j) by omega, h4, show (i * 2 + j) / 2 = i by omega, show (i * 2 + j) % 2 = j by omega, getElem!_pos d i hi]
  · rw [List.getElem?_eq_none (by simp; omega), List.getElem?_eq_none (by simp; omega)]
theorem s_maps_Keys (ms : RM) (c : Nat) : Ctr Try.prog F_maps_Keys_map_api_Dot_inst_Rec_api_Dot_inst_Rec [.mp 0] [rmap ms c] (fun x H => x = .fn F_maps_Keys_map_api_Dot_inst_Rec_api_Dot_inst_Rec_1 [.ptr 1 0] ∧ H = [rmap ms c, .cells [.mp 0] T_boxD]) := by
  refine i_maps_Keys_map_api_Dot_inst_Rec_api_Dot_inst_Rec.spec follows ?_
  exact VRet.mk [0, 1] (.fn F_maps_Keys_map_api_Dot_inst_Rec_api_Dot_inst_Rec_1 [.ptr 1 0]) [rmap ms c, .cells [.mp 0] T_boxD] ⟨rfl, rfl, rfl⟩ ⟨rfl, rfl⟩
theorem s_AppendSeq (ms : RM) (c : Nat) (hm : MOK ms c) (hl : ms.length ≤ 1000000) : Ctr Try.prog F_slices_AppendSeq_sl_api_Dot_api_Dot [.raw (.slice none 0 0), .fn F_maps_Keys_map_api_Dot_inst_Rec_api_Dot_inst_Rec_1 [.ptr 0 0]] [.cells [.mp 1] T_boxD, rmap ms c]
    (fun x H => ∃ d o c' ys, x = .sl 3 o d.length c' ∧ H = [.cells [.mp 1] T_boxD, rmap ms c, .gone, .arr ys T_api_Dot] ∧ d.Perm (keysOf ms) ∧ Row ys o c' d) := by
  have h := ap_ctr el_Dot rfl ap_Dot (gv_Keys ms c hm) (by kernel_rfl) (by omega) rfl
  refine Ctr.weak h ?_
  rintro x H ⟨d, o, c', ys, h1, rfl, rfl, h2, h3, h4⟩
  exact ⟨d, o, c', ys, rfl, rfl, h1, h2, h3, h4⟩
theorem s_Collect (ms : RM) (c : Nat) (hm : MOK ms c) (hl : ms.length ≤ 1000000) : Ctr Try.prog F_slices_Collect_api_Dot [.fn F_maps_Keys_map_api_Dot_inst_Rec_api_Dot_inst_Rec_1 [.ptr 0 0]] [.cells [.mp 1] T_boxD, rmap ms c]
    (fun x H => ∃ d o c' ys, x = .sl 2 o d.length c' ∧ H = [.cells [.mp 1] T_boxD, rmap ms c, .arr ys T_api_Dot] ∧ d.Perm (keysOf ms) ∧ Row ys o c' d) := by
  refine i_slices_Collect_api_Dot.spec follows ?_
  refine VCall.mk [0, 1] (s_AppendSeq ms c hm hl) ⟨rfl, rfl, rfl⟩ ?_
  rintro _ _ ⟨d, o, c', ys, rfl, rfl, hp, hr⟩
  exact VRet.mk [0, 1, 3] (.sl 2 o d.length c') [.cells [.mp 1] T_boxD, rmap ms c, .arr ys T_api_Dot] ⟨rfl, rfl, rfl⟩ ⟨d, o, c', ys, rfl, rfl, hp, hr⟩
theorem cmpD_lt {x y : Int × Int} : cmpD x y < 0 ↔ x.1 < y.1 ∨ (x.1 = y.1 ∧ x.2 < y.2) := by
  simp only [cmpD, orI, cmpI]
  by_cases h1 : x.1 < y.1
  · simp [h1]
  · by_cases h2 : y.1 < x.1
    · simp [h1, h2]; omega
    · by_cases h3 : x.2 < y.2
      · simp [h1, h2, h3]; omega
      · by_cases h4 : y.2 < x.2
        · simp [h1, h2, h3, h4]
        · simp [h1, h2, h3, h4]
theorem ltOf_cmpD {x y : Int × Int} : ltOf cmpD x y = true ↔ x.1 < y.1 ∨ (x.1 = y.1 ∧ x.2 < y.2) := by
  simp only [ltOf, decide_eq_true_iff]; exact cmpD_lt
theorem swo_cmpD : Sort.SWO (ltOf cmpD) where
  irrefl := fun x => by rw [Bool.eq_false_iff, Ne, ltOf_cmpD]; omega
  trans := fun x y z => by rw [ltOf_cmpD, ltOf_cmpD, ltOf_cmpD]; omega
  ntrans := fun x y z => by rw [Bool.eq_false_iff, Bool.eq_false_iff, Bool.eq_false_iff, Ne, Ne, Ne, ltOf_cmpD, ltOf_cmpD, ltOf_cmpD]; omega
theorem s_SortFunc (d : List (Int × Int)) (xs : List Value) (o c : Nat) (hr : Row xs o c d) (hl : d.length ≤ 1000000) : Ctr Try.prog F_slices_SortFunc_sl_api_Dot_api_Dot [.sl 0 o d.length c, .fn F_dots_Order []] [.arr xs T_api_Dot]
    (fun x H => ∃ d' xs', x = .tup [] ∧ H = [.arr xs' T_api_Dot] ∧ d'.Perm d ∧ d'.Pairwise (fun a b => ¬ cmpD b a < 0) ∧ Row xs' o c d') := by
  obtain ⟨h1, h2, h3⟩ := hr
  have h := sortK_ctr Try.sortDot Try.sortDot_agg Try.sortDot_size (cells := dcl) (fun _ => rfl) (by omega) (fun _ => rfl) cmpD swo_cmpD (gq := F_dots_Order) (by kernel_rfl)
    (fun x y => Ctr.weak (s_dots_Order x.1 x.2 y.1 y.2) (fun v H' h => h.1)) (H := [.arr xs T_api_Dot]) (j := 0) (off := o) (cap := c) (xs := xs) (e := T_api_Dot) rfl d h3 (by omega) (by omega)
  refine Ctr.weak h ?_
  rintro v H' ⟨rfl, d', hp, hs, rfl⟩
  have hl := hp.length_eq
  have hf : (d'.flatMap dcl).length = d'.length * 2 := flatMap_len (f := dcl) (k := 2) (fun _ => rfl) d'
  refine ⟨d', _, rfl, rfl, hp, ?_, by omega, by rw [rowSet_len (by omega)]; omega, ?_⟩
  · refine hs.imp fun {a b} h => ?_
    simpa [ltOf] using h
  · rw [← hf]; exact rowSet_cut (by omega)
theorem s_SortedFunc (ms : RM) (c : Nat) (hm : MOK ms c) (hl : ms.length ≤ 1000000) : Ctr Try.prog F_slices_SortedFunc_api_Dot [.fn F_maps_Keys_map_api_Dot_inst_Rec_api_Dot_inst_Rec_1 [.ptr 0 0], .fn F_dots_Order []] [.cells [.mp 1] T_boxD, rmap ms c]
    (fun x H => ∃ d o c' ys, x = .sl 2 o d.length c' ∧ H = [.cells [.mp 1] T_boxD, rmap ms c, .arr ys T_api_Dot] ∧ d.Perm (keysOf ms) ∧ d.Pairwise (fun a b => ¬ cmpD b a < 0) ∧ Row ys o c' d) := by
  refine i_slices_SortedFunc_api_Dot.spec follows ?_
  refine VCall.mk [0, 1] (s_Collect ms c hm hl) ⟨rfl, rfl, rfl⟩ ?_
  rintro _ _ ⟨d, o, c', ys, rfl, rfl, hp, hr⟩
  have hdl : d.length ≤ 1000000 := by have := hp.length_eq; simp [keysOf] at this; omega
  refine VCall.mk [2] (s_SortFunc d ys o c' hr hdl) ⟨rfl, rfl, rfl⟩ ?_
  rintro _ _ ⟨d', xs', rfl, rfl, hp', hs, hr'⟩
  have hlen : d.length = d'.length := hp'.length_eq.symm
  refine VRet.mk [0, 1, 2] (.sl 2 o d.length c') [.cells [.mp 1] T_boxD, rmap ms c, .arr xs' T_api_Dot] ⟨rfl, rfl, rfl⟩ ⟨d', o, c', xs', ?_, rfl, hp'.trans hp, hs, hr'⟩
  show SV.sl 2 o d.length c' = _
  rw [hlen]
end Go.Proofs

namespace Go.Proofs
open Go Go.V
set_option maxRecDepth 100000
set_option linter.unusedVariables false


def stz (ms : RM) (d : Int × Int) : Bool := decide (((MP.get ms d).getD zeroV).st = 0)
theorem s_All_1 (ms : RM) (c : Nat) (d : Int × Int) : Ctr Try.prog F_inst_Table_All_1 [.agg (dcells d.1 d.2), .ptr 0 0] [.cells [.ptr 1 0] T_p_inst_Table, tbl 2, rmap ms c]
    (fun x H => x = bv (stz ms d) ∧ H = [.cells [.ptr 1 0] T_p_inst_Table, tbl 2, rmap ms c]) := by
  have hpl : plain (.agg (rcells ((MP.get ms d).getD zeroV))) = some (encR ((MP.get ms d).getD zeroV)) := rfl
  refine i_inst_Table_All_1.spec follows ?_
  refine Exists.intro (.agg (rcells ((MP.get ms d).getD zeroV))) (Exists.intro _ (Exists.intro _ (And.intro (lookR ms d) (And.intro hpl ?_))))
  exact VRet.mk [0, 1, 2] (bv (stz ms d)) [.cells [.ptr 1 0] T_p_inst_Table, tbl 2, rmap ms c] ⟨rfl, rfl, rfl⟩ ⟨rfl, rfl⟩

theorem s_IndexFuncD (ms : RM) (c0 : Nat) (d : List (Int × Int)) (xs : List Value) (o c : Nat) (hr : RowG dcl 2 xs o c d) (hl : d.length ≤ 1000000) :
    Ctr Try.prog F_slices_IndexFunc_sl_api_Dot_api_Dot [.sl 0 o d.length c, .fn F_inst_Table_All_1 [.ptr 1 0]] [.arr xs T_api_Dot, .cells [.ptr 2 0] T_p_inst_Table, tbl 3, rmap ms c0]
    (fun x H => (∃ i : Nat, ∃ hi : i < d.length, x = iv i ∧ stz ms d[i] = true ∧ (∀ j (hj : j < d.length), j < i → stz ms d[j] = false) ∧ H = [.arr xs T_api_Dot, .cells [.ptr 2 0] T_p_inst_Table, tbl 3, rmap ms c0]) ∨ (x = iv (-1) ∧ (∀ j (hj : j < d.length), stz ms d[j] = false) ∧ H = [.arr xs T_api_Dot, .cells [.ptr 2 0] T_p_inst_Table, tbl 3, rmap ms c0])) := by
  have hcl : ∀ x, (dcl x).length = 2 := fun _ => rfl
  refine i_slices_IndexFunc_sl_api_Dot_api_Dot.spec follows ?_
  refine VLoop.mk Nat (fun i => [(0, .sl 0 o d.length c), (1, .fn F_inst_Table_All_1 [.ptr 1 0]), (6, .sl 0 o d.length c), (7, iv d.length), (8, iv i)]) (fun i => [.arr xs T_api_Dot, .cells [.ptr 2 0] T_p_inst_Table, tbl 3, rmap ms c0])
    (fun i => i ≤ d.length ∧ ∀ j (hj : j < d.length), j < i → stz ms d[j] = false) (fun i => d.length - i) 0 [0, 1, 2, 3] ⟨⟨Nat.zero_le _, fun j _ hj => by omega⟩, rfl, rfl, rfl⟩ ?_
  rintro i ⟨hi, hb⟩ g
  refine And.intro (fun h => ?_) (fun h => ?_)
  · have h := of_decide_eq_true h
    have hil : i < d.length := by omega
    have hw : IntKind.i64.wrap ((i : Int) + 1) = ((i + 1 : Nat) : Int) := wrap64 (by omega)
    have hc := hr.cut hcl hil
    have hroom : o + d.length * 2 ≤ xs.length := by have := hr.2.1; have := Nat.mul_le_mul_right 2 hr.1; omega
    refine And.intro ⟨Int.natCast_nonneg i, h, hroom⟩ (Exists.intro _ (And.intro (by rw [Int.toNat_natCast]; exact hc) ?_))
    refine And.intro (by kernel_rfl) ?_
    refine VCall.mk [1, 2, 3] (s_All_1 ms c0 d[i]) ⟨rfl, rfl, rfl⟩ ?_
    rintro _ _ ⟨rfl, rfl⟩
    refine And.intro (fun h2 => ?_) (fun h2 => ?_)
    · exact VRet.mk [0, 1, 2, 3] (iv i) [.arr xs T_api_Dot, .cells [.ptr 2 0] T_p_inst_Table, tbl 3, rmap ms c0] ⟨rfl, rfl, rfl⟩ (.inl ⟨i, hil, rfl, h2, hb, rfl⟩)
    · refine Exists.intro _ (And.intro hw ?_)
      refine Exists.intro (i + 1) (Exists.intro [0, 1, 2, 3] (And.intro ⟨⟨hil, fun j hj hji => ?_⟩, by omega⟩ ⟨rfl, rfl, rfl⟩))
      by_cases e : j = i
      · subst e; exact h2
      · exact hb j hj (by omega)
  · have h := of_decide_eq_false h
    exact VRet.mk [0, 1, 2, 3] (iv (-1)) [.arr xs T_api_Dot, .cells [.ptr 2 0] T_p_inst_Table, tbl 3, rmap ms c0] ⟨rfl, rfl, rfl⟩ (.inr ⟨rfl, fun j hj => hb j hj (by omega), rfl⟩)

structure DXD where
  e : List (Int × Int)
  xs : List Value
  i : Nat
  j : Nat
theorem s_DeleteFuncD (ms : RM) (c0 : Nat) (d : List (Int × Int)) (xs : List Value) (o c : Nat) (hr : RowG dcl 2 xs o c d) (hl : d.length ≤ 1000000) :
    Ctr Try.prog F_slices_DeleteFunc_sl_api_Dot_api_Dot [.sl 0 o d.length c, .fn F_inst_Table_All_1 [.ptr 1 0]] [.arr xs T_api_Dot, .cells [.ptr 2 0] T_p_inst_Table, tbl 3, rmap ms c0]
    (fun x H => ∃ d' xs', d' = d.filter (fun y => !(stz ms y)) ∧ x = .sl 0 o d'.length c ∧ H = [.arr xs' T_api_Dot, .cells [.ptr 2 0] T_p_inst_Table, tbl 3, rmap ms c0] ∧ RowG dcl 2 xs' o c d') := by
  have hcl : ∀ x, (dcl x).length = 2 := fun _ => rfl
  refine i_slices_DeleteFunc_sl_api_Dot_api_Dot.spec follows ?_
  refine VCall.mk [0, 1, 2, 3] (s_IndexFuncD ms c0 d xs o c hr hl) ⟨rfl, rfl, rfl⟩ ?_
  rintro _ _ (⟨i0, hi0, rfl, hp0, hb0, rfl⟩ | ⟨rfl, hb, rfl⟩)
  rotate_left 1
  · refine And.intro (fun _ => ?_) (fun h => absurd (of_decide_eq_false h) (by simp))
    have hd : d.filter (fun y => !(stz ms y)) = d := by
      rw [List.filter_eq_self]
      intro x hx
      obtain ⟨j, hj, rfl⟩ := List.mem_iff_getElem.1 hx
      simp [hb j hj]
    refine VRet.mk [0, 1, 2, 3] (.sl 0 o d.length c) [.arr xs T_api_Dot, .cells [.ptr 2 0] T_p_inst_Table, tbl 3, rmap ms c0] ⟨rfl, rfl, rfl⟩ ⟨d, xs, hd.symm, rfl, rfl, hr⟩
  have hn1 : ¬ ((i0 : Int) = -1) := by omega
  refine And.intro (fun h => absurd (of_decide_eq_true h) hn1) (fun _ => ?_)
  have hw0 : IntKind.i64.wrap ((i0 : Int) + 1) = ((i0 + 1 : Nat) : Int) := wrap64 (by omega)
  refine Exists.intro _ (And.intro hw0 ?_)
  refine VLoop.mk DXD (fun x => [(0, .sl 0 o d.length c), (1, .fn F_inst_Table_All_1 [.ptr 1 0]), (5, iv x.i), (6, iv x.j)]) (fun x => [.arr x.xs T_api_Dot, .cells [.ptr 2 0] T_p_inst_Table, tbl 3, rmap ms c0])
    (fun x => Sieve d (fun y => !(stz ms y)) x.e x.i x.j ∧ RowG dcl 2 x.xs o c x.e ∧ x.i < x.j) (fun x => d.length - x.j) ⟨d, xs, i0, i0 + 1⟩ [0, 1, 2, 3]
    ⟨⟨Sieve.start hi0 (by simp [hp0]) (fun j hj hji => by simp [hb0 j hj hji]), hr, Nat.lt_succ_self _⟩, rfl, rfl, rfl⟩ ?_
  rintro ⟨e, ys, i, j⟩ ⟨hS, hR, hij⟩ g
  simp only at hS hR hij
  have hroom : o + d.length * 2 ≤ ys.length := by have := hR.2.1; have := Nat.mul_le_mul_right 2 hR.1; rw [hS.len] at this; omega
  refine And.intro (fun h => ?_) (fun h => ?_)
  · have h := of_decide_eq_true h
    have hjl : j < d.length := by simp only at h; omega
    have hjl' : j < e.length := by rw [hS.len]; exact hjl
    have hge := hS.get hjl
    have hc := hR.cut hcl hjl'
    rw [hge] at hc
    have hwj : IntKind.i64.wrap ((j : Int) + 1) = ((j + 1 : Nat) : Int) := wrap64 (by omega)
    have hwi : IntKind.i64.wrap ((i : Int) + 1) = ((i + 1 : Nat) : Int) := wrap64 (by omega)
    refine And.intro ⟨Int.natCast_nonneg j, h, hroom⟩ (Exists.intro _ (And.intro (by rw [Int.toNat_natCast]; exact hc) ?_))
    refine And.intro (by kernel_rfl) ?_
    refine VCall.mk [1, 2, 3] (s_All_1 ms c0 d[j]) ⟨rfl, rfl, rfl⟩ ?_
    rintro _ _ ⟨rfl, rfl⟩
    refine And.intro (fun h2 => ?_) (fun h2 => ?_)
    · have h2 : stz ms d[j] = false := by simpa using h2
      have hil : i < e.length := by omega
      obtain ⟨zs, hz1, hz2, hz3⟩ := hR.set hcl (by omega) hil d[j]
      refine And.intro ⟨Int.natCast_nonneg i, by have := hS.len; show (i : Int) < (d.length : Nat); omega, hroom⟩ (Exists.intro _ (And.intro (by rw [Int.toNat_natCast]; exact hz1) ?_))
      refine Exists.intro _ (And.intro hwi ?_)
      refine Exists.intro _ (And.intro hwj ?_)
      exact Exists.intro ⟨e.set i d[j], zs, i + 1, j + 1⟩ (Exists.intro [0, 1, 2, 3] (And.intro ⟨⟨hS.keep hjl (by simp [h2]), hz2, by simp only; omega⟩, by simp only; omega⟩ ⟨rfl, rfl, rfl⟩))
    · have h2 : stz ms d[j] = true := by simpa using h2
      refine Exists.intro _ (And.intro hwj ?_)
      exact Exists.intro ⟨e, ys, i, j + 1⟩ (Exists.intro [0, 1, 2, 3] (And.intro ⟨⟨hS.drop hjl (by simp [h2]), hR, by simp only; omega⟩, by simp only; omega⟩ ⟨rfl, rfl, rfl⟩))
  · have h := of_decide_eq_false h
    have hj : j = d.length := by have := hS.le; simp only at h; omega
    subst hj
    have hi := hS.le.1
    have hlen := hS.len
    have hlx := hR.2.1
    have hcc := hR.1
    have hmul := Nat.mul_le_mul_right 2 hR.1
    refine And.intro ⟨Int.natCast_nonneg i, by show (i : Int) ≤ (d.length : Nat); omega⟩ (Exists.intro _ (And.intro rfl ?_))
    rw [Int.toNat_natCast]
    refine And.intro ⟨rfl, rfl, ?_⟩ ?_
    · have hlx' : o + c * 2 ≤ ys.length := hlx
      rw [hlen] at hmul hcc
      have hsub : (d.length - i) * 2 ≤ c * 2 - i * 2 := by rw [← Nat.sub_mul]; exact Nat.mul_le_mul_right _ (by omega)
      have him : i * 2 ≤ c * 2 := Nat.mul_le_mul_right _ (by omega)
      show (if c = i then o else o + i * 2) + (d.length - i) * 2 ≤ ys.length
      by_cases hci : c = i
      · rw [if_pos hci]
        subst hci
        omega
      · rw [if_neg hci]; omega
    intro ws hws
    refine And.intro ⟨Int.natCast_nonneg i, by show (i : Int) ≤ (c : Nat); omega⟩ ?_
    rw [Int.toNat_natCast]
    have hdone := hS.done
    have hnum : i = (d.filter fun y => !(stz ms y)).length := by rw [← hdone, List.length_take]; omega
    have hR2 := hR.cutDown hcl i
    rw [hdone] at hR2
    have hR3 : RowG dcl 2 ws o c (d.filter fun y => !(stz ms y)) := by
      refine hR2.same hws.1 fun t ht => hws.2 t (.inl ?_)
      rw [← hnum] at ht
      show t < (if c = i then o else o + i * 2)
      by_cases hci : c = i
      · exfalso
        have h1 : i < d.length := hij
        have h2 : e.length ≤ c := hcc
        rw [hlen] at h2
        omega
      · rw [if_neg hci]; exact ht
    refine VRet.mk [0, 1, 2, 3] (.sl 0 o i c) [.arr ws T_api_Dot, .cells [.ptr 2 0] T_p_inst_Table, tbl 3, rmap ms c0] ⟨rfl, rfl, rfl⟩ ⟨_, ws, rfl, ?_, rfl, hR3⟩
    rw [← hnum]
end Go.Proofs

namespace Go.Proofs
open Go Go.V
set_option maxRecDepth 100000
set_option linter.unusedVariables false

structure IsAll (T : Int × Int → AR) (d : List (Int × Int)) : Prop where
  nd : d.Nodup
  mem : ∀ k, k ∈ d ↔ (T k).st ≠ 0
theorem stz_iff {h : Nat → Option Obj} {ms : RM} {c : Nat} {T : Int × Int → AR} {B : Int} (ht : Tab h ms c T B) (d : Int × Int) : stz ms d = decide ((T d).st = 0) := by
  unfold stz; rw [(ht.at d).st]
theorem s_All (h : Nat → Option Obj) (ms : RM) (c : Nat) (T : Int × Int → AR) (B : Int) (ht : Tab h ms c T B) (hl : ms.length ≤ 1000000) :
    Ctr Try.prog F_inst_Table_All [.ptr 0 0] [tbl 1, rmap ms c] (fun x H => ∃ d o c' ys, x = .sl 2 o d.length c' ∧ H = [tbl 1, rmap ms c, .arr ys T_api_Dot] ∧ IsAll T d ∧ RowG dcl 2 ys o c' d ∧ d.length ≤ ms.length) := by
  refine i_inst_Table_All.spec follows ?_
  refine VCall.mk [1] (s_maps_Keys ms c) ⟨rfl, rfl, rfl⟩ ?_
  rintro _ _ ⟨rfl, rfl⟩
  refine VCall.mk [3, 1] (s_SortedFunc ms c ht.ok hl) ⟨rfl, rfl, rfl⟩ ?_
  rintro _ _ ⟨d, o, c', ys, rfl, rfl, hp, hs, hr⟩
  have hdl : d.length = ms.length := by have := hp.length_eq; simpa [keysOf] using this
  refine VCall.mk [4, 2, 0, 1] (s_DeleteFuncD ms c d ys o c' hr (by omega)) ⟨rfl, rfl, rfl⟩ ?_
  rintro _ _ ⟨d', xs', hd', rfl, rfl, hr'⟩
  refine VRet.mk [0, 1, 4] (.sl 2 o d'.length c') [tbl 1, rmap ms c, .arr xs' T_api_Dot] ⟨rfl, rfl, rfl⟩ ⟨d', o, c', xs', rfl, rfl, ⟨?_, fun k => ?_⟩, hr', ?_⟩
  · rw [hd']
    exact (hp.nodup_iff.2 ht.nd).filter _
  · rw [hd', List.mem_filter, stz_iff ht, Bool.not_eq_true', decide_eq_false_iff_not]
    constructor
    · exact fun h => h.2
    · intro hk
      refine ⟨?_, hk⟩
      obtain ⟨x, hx, rfl⟩ := ht.dot hk
      exact hp.mem_iff.2 (List.mem_map.2 ⟨x, hx, rfl⟩)
  · rw [hd', ← hdl]; exact List.length_filter_le _ _

structure IsKnown (T : Int × Int → AR) (v : Nat → Int) : Prop where
  lo : ∀ i, 0 ≤ v i
  ge : ∀ o, (T o).st ≠ 0 → o.2 ≤ v o.1.toNat
  is : ∀ i, i < 7 → v i = 0 ∨ ∃ o, (T o).st ≠ 0 ∧ o.1 = (i : Int) ∧ v i = o.2
/-- .. of those told so far. -/
structure KnL (l : List (Int × Int)) (v : Nat → Int) : Prop where
  lo : ∀ i, 0 ≤ v i
  ge : ∀ o ∈ l, o.2 ≤ v o.1.toNat
  is : ∀ i, i < 7 → v i = 0 ∨ ∃ o ∈ l, o.1 = (i : Int) ∧ v i = o.2
theorem KnL.more {l : List (Int × Int)} {v : Nat → Int} (h : KnL l v) (x : Int × Int) (hx : 0 ≤ x.1 ∧ x.1 < 7) : KnL (l ++ [x]) (upv v x.1.toNat (if x.2 > v x.1.toNat then x.2 else v x.1.toNat)) := by
  refine ⟨fun i => ?_, fun o ho => ?_, fun i hi => ?_⟩
  · have := h.lo i
    have := h.lo x.1.toNat
    simp only [upv]; repeat' split
    all_goals omega
  · rcases List.mem_append.1 ho with h1 | h1
    · have := h.ge o h1
      simp only [upv]
      by_cases hq : o.1.toNat = x.1.toNat
      · rw [if_pos hq]; rw [hq] at this; split <;> omega
      · rw [if_neg hq]; exact this
    · simp at h1; subst h1
      simp only [upv, if_true]; split <;> omega
  · have old : v i = 0 ∨ ∃ o ∈ l ++ [x], o.1 = (i : Int) ∧ v i = o.2 := by
      rcases h.is i hi with h1 | ⟨o, h1, h2⟩
      · exact .inl h1
      · exact .inr ⟨o, by simp [h1], h2⟩
    simp only [upv]
    by_cases hq : i = x.1.toNat
    · subst hq
      rw [if_pos rfl]
      split
      · exact .inr ⟨x, by simp, (Int.toNat_of_nonneg hx.1).symm, rfl⟩
      · exact old
    · rw [if_neg hq]; exact old
theorem IsAll.rep {h : Nat → Option Obj} {ms : RM} {c : Nat} {T : Int × Int → AR} {B : Int} (ht : Tab h ms c T B) {d : List (Int × Int)} (hA : IsAll T d) {x : Int × Int} (hx : x ∈ d) : (0 ≤ x.1 ∧ x.1 < 7) ∧ 1 ≤ x.2 := by
  obtain ⟨y, hy, rfl⟩ := ht.dot ((hA.mem x).1 hx)
  have := ht.key y hy
  simp only [dotB, Bool.and_eq_true, isRep_iff, decide_eq_true_eq] at this
  exact ⟨this.1, this.2.1⟩
structure KX where
  i : Nat
  v : Nat → Int
theorem s_Known (h : Nat → Option Obj) (ms : RM) (c : Nat) (T : Int × Int → AR) (B : Int) (ht : Tab h ms c T B) (hl : ms.length ≤ 1000000) :
    Ctr Try.prog F_inst_Table_Known [.ptr 0 0] [tbl 1, rmap ms c] (fun x H => ∃ v, x = .agg (vcells v) ∧ H = [tbl 1, rmap ms c] ∧ IsKnown T v) := by
  refine i_inst_Table_Known.spec follows ?_
  refine VCall.mk [0, 1] (s_All h ms c T B ht hl) ⟨rfl, rfl, rfl⟩ ?_
  rintro _ _ ⟨d, o, c', ys, rfl, rfl, hA, hr, hdl⟩
  have hcl : ∀ x, (dcl x).length = 2 := fun _ => rfl
  refine VLoop.mk KX (fun x => [(2, .ptr 2 0), (3, .ptr 3 0), (7, .sl 4 o d.length c'), (8, iv d.length), (9, iv x.i)]) (fun x => [tbl 1, rmap ms c, .cells (vcells fun _ => 0) 33, .cells (vcells x.v) 33, .arr ys T_api_Dot])
    (fun x => x.i ≤ d.length ∧ KnL (d.take x.i) x.v) (fun x => d.length - x.i) ⟨0, fun _ => 0⟩ [0, 1, 2, 3, 4] ⟨⟨Nat.zero_le _, ⟨fun _ => Int.le_refl 0, by simp, fun _ _ => .inl rfl⟩⟩, rfl, rfl, rfl⟩ ?_
  rintro ⟨i, v⟩ ⟨hi, hk⟩ g
  simp only at hi hk
  have hroom : o + d.length * 2 ≤ ys.length := by have := hr.2.1; have := Nat.mul_le_mul_right 2 hr.1; omega
  refine And.intro (fun h1 => ?_) (fun h1 => ?_)
  · have h1 := of_decide_eq_true h1
    have hil : i < d.length := by simp only at h1; omega
    have hw : IntKind.i64.wrap ((i : Int) + 1) = ((i + 1 : Nat) : Int) := wrap64 (by omega)
    have hc := hr.cut hcl hil
    have hrep := (hA.rep ht (List.getElem_mem hil)).1
    refine And.intro ⟨Int.natCast_nonneg i, h1, hroom⟩ (Exists.intro _ (And.intro (by rw [Int.toNat_natCast]; exact hc) ?_))
    refine And.intro hrep (Exists.intro _ (And.intro (vcells_get' v hrep []) ?_))
    refine And.intro hrep (Exists.intro _ (And.intro (vcells_put v (if d[i].2 > v d[i].1.toNat then d[i].2 else v d[i].1.toNat) hrep []) ?_))
    refine Exists.intro _ (And.intro hw ?_)
    refine Exists.intro ⟨i + 1, upv v d[i].1.toNat (if d[i].2 > v d[i].1.toNat then d[i].2 else v d[i].1.toNat)⟩ (Exists.intro [0, 1, 2, 3, 4] (And.intro ⟨⟨hil, ?_⟩, by simp only; omega⟩ ⟨rfl, rfl, rfl⟩))
    have := hk.more d[i] hrep
    rwa [List.take_append_getElem hil] at this
  · have h1 := of_decide_eq_false h1
    have hid : i = d.length := by simp only at h1; omega
    subst hid
    rw [List.take_length] at hk
    refine VRet.mk [0, 1] (.agg (vcells v)) [tbl 1, rmap ms c] ⟨rfl, rfl, rfl⟩ ⟨v, rfl, rfl, hk.lo, fun x hx => hk.ge x ((hA.mem x).2 hx), fun j hj => ?_⟩
    rcases hk.is j hj with h2 | ⟨x, h2, h3⟩
    · exact .inl h2
    · exact .inr ⟨x, (hA.mem x).1 h2, h3⟩

structure IsTop (T : Int × Int → AR) (n : Int) : Prop where
  lo : 0 ≤ n
  ge : ∀ o, (T o).st ≠ 0 → (T o).seq ≤ n
  is : n = 0 ∨ ∃ o, (T o).st ≠ 0 ∧ n = (T o).seq
structure TX where
  i : Nat
  n : Int
theorem s_Top (h : Nat → Option Obj) (ms : RM) (c : Nat) (T : Int × Int → AR) (B : Int) (ht : Tab h ms c T B) (hl : ms.length ≤ 1000000) :
    Ctr Try.prog F_inst_Table_Top [.ptr 0 0] [tbl 1, rmap ms c] (fun x H => ∃ n, x = iv n ∧ H = [tbl 1, rmap ms c] ∧ IsTop T n) := by
  refine i_inst_Table_Top.spec follows ?_
  refine VCall.mk [0, 1] (s_All h ms c T B ht hl) ⟨rfl, rfl, rfl⟩ ?_
  rintro _ _ ⟨d, o, c', ys, rfl, rfl, hA, hr, hdl⟩
  have hcl : ∀ x, (dcl x).length = 2 := fun _ => rfl
  refine VLoop.mk TX (fun x => [(0, .ptr 0 0), (3, iv x.n), (7, .sl 2 o d.length c'), (8, iv d.length), (9, iv x.i)]) (fun x => [tbl 1, rmap ms c, .arr ys T_api_Dot])
    (fun x => x.i ≤ d.length ∧ 0 ≤ x.n ∧ (∀ y ∈ d.take x.i, (T y).seq ≤ x.n) ∧ (x.n = 0 ∨ ∃ y ∈ d, x.n = (T y).seq)) (fun x => d.length - x.i) ⟨0, 0⟩ [0, 1, 2] ⟨⟨Nat.zero_le _, Int.le_refl 0, by simp, .inl rfl⟩, rfl, rfl, rfl⟩ ?_
  rintro ⟨i, n⟩ ⟨hi, hn0, hge, his⟩ g
  simp only at hi hn0 hge his
  have hroom : o + d.length * 2 ≤ ys.length := by have := hr.2.1; have := Nat.mul_le_mul_right 2 hr.1; omega
  refine And.intro (fun h1 => ?_) (fun h1 => ?_)
  · have h1 := of_decide_eq_true h1
    have hil : i < d.length := by simp only at h1; omega
    have hw : IntKind.i64.wrap ((i : Int) + 1) = ((i + 1 : Nat) : Int) := wrap64 (by omega)
    have hc := hr.cut hcl hil
    have hat := ht.at d[i]
    have hpl : plain (.agg (rcells ((MP.get ms d[i]).getD zeroV))) = some (encR ((MP.get ms d[i]).getD zeroV)) := rfl
    refine And.intro ⟨Int.natCast_nonneg i, h1, hroom⟩ (Exists.intro _ (And.intro (by rw [Int.toNat_natCast]; exact hc) ?_))
    refine Exists.intro (.agg (rcells ((MP.get ms d[i]).getD zeroV))) (Exists.intro _ (Exists.intro _ (And.intro (lookR ms d[i]) (And.intro hpl ?_))))
    refine Exists.intro _ (And.intro hw ?_)
    refine Exists.intro ⟨i + 1, if ((MP.get ms d[i]).getD zeroV).seq > n then ((MP.get ms d[i]).getD zeroV).seq else n⟩ (Exists.intro [0, 1, 2] (And.intro ⟨⟨hil, ?_⟩, by simp only; omega⟩ ⟨rfl, rfl, rfl⟩))
    simp only [hat.seq]
    refine ⟨by split <;> omega, fun y hy => ?_, ?_⟩
    · rw [← List.take_append_getElem hil] at hy
      rcases List.mem_append.1 hy with hy | hy
      · have := hge y hy; split <;> omega
      · simp at hy; subst hy; split <;> omega
    · split
      · exact .inr ⟨d[i], List.getElem_mem hil, rfl⟩
      · exact his
  · have h1 := of_decide_eq_false h1
    have hid : i = d.length := by simp only at h1; omega
    subst hid
    rw [List.take_length] at hge
    refine VRet.mk [0, 1] (iv n) [tbl 1, rmap ms c] ⟨rfl, rfl, rfl⟩ ⟨n, rfl, rfl, hn0, fun x hx => hge x ((hA.mem x).2 hx), ?_⟩
    rcases his with h2 | ⟨y, h2, h3⟩
    · exact .inl h2
    · exact .inr ⟨y, (hA.mem y).1 h2, h3⟩
end Go.Proofs

