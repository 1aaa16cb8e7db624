/- Part of the proof that the statement named in the last file holds: lemmas of the prover's own. No conditions. -/
import Derived.Test.YtfnjbdnnnpbeaaaGreatDoorSC
namespace Go.Proofs
open Go Go.V Go.Lib
set_option maxRecDepth 100000
set_option linter.unusedVariables false

theorem DRF.dropped {w v : Nat → Int} {ms ms' : MPV} {hs hs' : Nat → Option Obj} {c c' N N' : Nat} (hI : StI hs v ms c N) (hI' : StI hs' v ms' c' N') (h : ∀ p, (lk ms p = none ∧ lk ms' p = none) ∨ ∃ a a', lk ms p = some a ∧ lk ms' p = some a' ∧ DropA w a a') : DRF w (lk ms) (lk ms') := by
  intro p
  have ok : ∀ {hs : Nat → Option Obj} {v : Nat → Int} {ms : MPV} {c N : Nat} (hI : StI hs v ms c N) {a : AV}, lk ms p = some a → a.ok N := by
    intro hs v ms c N hI a q
    obtain ⟨x, q4, q5⟩ := Option.map_eq_some_iff.1 (show (MP.get ms p).map (fun x : VV => x.a) = some a from q)
    subst q5
    exact (hI.get q4).2.1
  rcases h p with h | ⟨a, b, q1, q2, q3⟩
  · exact .inl h
  · exact .inr ⟨a, b, q1, q2, DR.drop (ok hI q1) (ok hI' q2) q3⟩
theorem appV_up {v : Nat → Int} {f : PK → Option AV} (s : SH) : ∀ r, r < 7 → v r ≤ appV v f s r := by
  intro r hr
  by_cases h : appE v f s = 0
  · obtain ⟨h1, h2, h3, h4⟩ := appE_ok h
    have hF := fine_of h1 h3
    unfold appV; rw [if_pos h]
    exact fine_up hF r hr
  · rw [appV_no h]; exact Int.le_refl _
structure D2X where
  i : Nat
  v : Nat → Int
  hs : Nat → Option Obj
  ms : MPV
  c : Nat
  hs' : Nat → Option Obj
  ms' : MPV
  c' : Nat
theorem s_ApplyE (h : Nat → Option Obj) (hu : Uni h) (hs : Nat → Option Obj) (v : Nat → Int) (ms : MPV) (c N : Nat) (hI : StI hs v ms c N) (s : SH) (hz : s.key.size ≤ 1000) (e : Int) (V : Nat → Int) (he : appE v (lk ms) s = e) (hV : appV v (lk ms) s = V) :
    Ctr Tryz.prog F_state_State_Apply [.ptr 0 0, .agg (shcells s)] (SST v ms c ++ [.heap hs, .heap h]) (fun x H => ∃ hs' ms' c', x = iv e ∧ H = SST V ms' c' ++ [.heap hs', .heap h] ∧ StI hs' V ms' c' (N + 1) ∧ lk ms' = appF v (lk ms) s) := by
  intro ρ g w hS hb
  refine Calls.mono (s_Apply h hu hs v ms c N hI s hz ρ g w hS hb) ?_
  rintro e' w' ⟨ρ', x, H', rfl, hS', hρ, hl, hbl, hs', ms', c', rfl, rfl, hI', hF⟩
  rw [hV] at hS' hI'
  exact ⟨ρ', _, _, rfl, hS', hρ, hl, hbl, hs', ms', c', by rw [he], rfl, hI', funext hF⟩
set_option maxHeartbeats 4000000 in
theorem s_StateDropW (h : Nat → Option Obj) (hu : Uni h) (ht : Ten h) (v1 : Value) (L : List SH) (hv1 : RowsIs shcl 14 h v1 L) (v2 : Value) (P : List SH) (hv2 : RowsIs shcl 14 h v2 P) :
    Ctr Tryz.prog F_rostrumlaw14_StateDrop [.raw v1, .raw v2] [.heap h, .heap EM, .heap EM] (fun x H => x = bv true ∧ ∃ hs hs', H = [.heap h, .heap hs, .heap hs']) := by
  obtain ⟨la, lc, rfl⟩ := hv1.shape
  obtain ⟨bL, oL, xL, eL, fL, HL⟩ := hv1.pos
  obtain ⟨pa, pc, rfl⟩ := hv2.shape
  obtain ⟨bP, oP, xP, eP, fP, HP⟩ := hv2.pos
  refine i_rostrumlaw14_StateDrop.spec follows ?_
  refine VCall.mk [0] (s_awake h hu ht) ⟨rfl, rfl, rfl⟩ ?_
  rintro _ _ ⟨rfl, rfl⟩
  refine And.intro (fun h => absurd h (by simp)) (fun _ => ?_)
  refine And.intro (fun k1 => ?_) (fun k1 => VRet.mk [0, 1, 2] (bv true) [.heap h, .heap EM, .heap EM] ⟨rfl, rfl, rfl⟩ ⟨rfl, _, _, rfl⟩)
  have k1 : ¬ (25 < (L.length : Int)) := of_decide_eq_false k1
  refine And.intro (fun k2 => VRet.mk [0, 1, 2] (bv true) [.heap h, .heap EM, .heap EM] ⟨rfl, rfl, rfl⟩ ⟨rfl, _, _, rfl⟩) (fun k2 => ?_)
  have k2 : ¬ (15 < (P.length : Int)) := by simpa using k2
  refine VCall.mk [] s_StNew ⟨rfl, rfl, rfl⟩ ?_
  rintro _ _ ⟨rfl, rfl⟩
  refine VCall.mk [] s_StNew ⟨rfl, rfl, rfl⟩ ?_
  rintro _ _ ⟨rfl, rfl⟩
  refine VLoop.mk D2X (fun x => [(0, .raw (.slice la L.length lc)), (1, .raw (.slice pa P.length pc)), (5, .ptr 3 0), (6, .ptr 5 0), (7, iv x.i)]) (fun x => SSab h x.hs x.v x.ms x.c x.hs' x.v x.ms' x.c') (fun x => x.i ≤ L.length ∧ StI x.hs x.v x.ms x.c x.i ∧ StI x.hs' x.v x.ms' x.c' x.i ∧ lk x.ms' = lk x.ms ∧ SeenF x.v (lk x.ms)) (fun x => L.length - x.i) ⟨0, w0, EM, [], 0, EM, [], 0⟩ [0, 1, 2, 3, 4, 5, 6]
    ⟨⟨Nat.zero_le _, StI.new _, StI.new _, rfl, SeenF.new _ _ rfl⟩, rfl, rfl, rfl⟩ ?_
  rintro ⟨i, v, hs, ms, c, hs', ms', c'⟩ ⟨hi, hI, hI', hlk, hSF⟩ g
  simp only at hi hI hI' hlk hSF
  refine And.intro (fun h1 => ?_) (fun h1 => ?_)
  · have h1 : (i : Int) < (L.length : Nat) := of_decide_eq_true h1
    have hil : i < L.length := by omega
    have hwi : IntKind.i64.wrap ((i : Int) + 1) = ((i + 1 : Nat) : Int) := wrap64 (by omega)
    obtain ⟨hla, hh, hcut⟩ := HL (by omega)
    subst hla
    have hni : (0 : Int) ≤ (i : Int) ∧ (i : Int) < (L.length : Nat) := ⟨Int.natCast_nonneg i, h1⟩
    have ci : V.cut xL (oL + (i : Int).toNat * 14) 14 = some (shcl L[i]) := by rw [Int.toNat_natCast]; exact hcut i hil
    generalize L[i] = s at ci
    refine And.intro hni ?_
    refine Exists.intro 0 (Exists.intro xL (Exists.intro eL (Exists.intro fL (And.intro hh (Exists.intro _ (And.intro ci ?_))))))
    refine VCall.mk [] (s_long s) ⟨rfl, rfl, rfl⟩ ?_
    rintro _ _ ⟨rfl, rfl⟩
    refine And.intro (fun hq => VRet.mk [0, 1, 2] (bv true) [.heap h, .heap hs, .heap hs'] ⟨rfl, rfl, rfl⟩ ⟨rfl, _, _, rfl⟩) (fun hq => ?_)
    have hsz := longB_no hq
    obtain ⟨V, hV⟩ : ∃ V, appV v (lk ms) s = V := ⟨_, rfl⟩
    obtain ⟨e, he⟩ : ∃ e, appE v (lk ms) s = e := ⟨_, rfl⟩
    have hSF' := hSF.app s
    rw [hV] at hSF'
    refine And.intro hni ?_
    refine Exists.intro 0 (Exists.intro xL (Exists.intro eL (Exists.intro fL (And.intro hh (Exists.intro _ (And.intro ci ?_))))))
    refine VCall.mk [3, 4, 1, 0] (s_ApplyE h hu hs v ms c i hI s (by omega) e V he hV) ⟨rfl, rfl, rfl⟩ ?_
    rintro _ _ ⟨hs1, ms1, c1, rfl, rfl, hI1, hF1⟩
    refine And.intro hni ?_
    refine Exists.intro 0 (Exists.intro xL (Exists.intro eL (Exists.intro fL (And.intro hh (Exists.intro _ (And.intro ci ?_))))))
    refine VCall.mk [5, 6, 2, 0] (s_ApplyE h hu hs' v ms' c' i hI' s (by omega) e V (by rw [hlk]; exact he) (by rw [hlk]; exact hV)) ⟨rfl, rfl, rfl⟩ ?_
    rintro _ _ ⟨hs2, ms2, c2, rfl, rfl, hI2, hF2⟩
    refine Exists.intro _ (And.intro hwi ?_)
    exact Exists.intro ⟨i + 1, V, hs1, ms1, c1, hs2, ms2, c2⟩ (Exists.intro [0, 1, 2, 3, 4, 5, 6] (And.intro ⟨⟨hil, hI1, hI2, by simp only; rw [hF1, hF2, hlk], by simp only; rw [hF1]; exact hSF'⟩, by simp only; omega⟩ ⟨rfl, rfl, rfl⟩))
  have h1 : ¬ (i : Int) < (L.length : Nat) := of_decide_eq_false h1
  have hiL : i = L.length := by omega
  subst hiL
  refine VCall.mk [3, 4] (s_Have v ms c) ⟨rfl, rfl, rfl⟩ ?_
  rintro _ _ ⟨rfl, rfl⟩
  refine VCall.mk [5, 6, 2] (s_StDrop hs' v ms' c' L.length hI' v) ⟨rfl, rfl, rfl⟩ ?_
  rintro _ _ ⟨rfl, hs1, ms1, rfl, hI1, hF1⟩
  have hDR := DRF.dropped hI' hI1 hF1
  rw [hlk] at hDR
  have hbb := hDR.bytes hI hI1
  refine VCall.mk [3, 4, 1, 5, 6, 2] (s_StSame hs hs1 v v ms ms1 c c' _ _ hI hI1 (by omega) (by omega)) ⟨rfl, rfl, rfl⟩ ?_
  rintro _ _ ⟨rfl, rfl⟩
  refine And.intro (fun k => absurd hbb (by simpa using k)) (fun _ => ?_)
  obtain ⟨n, hn⟩ : ∃ n, n = L.length := ⟨_, rfl⟩
  rw [← hn] at hI hI1
  refine VLoop.mk D2X (fun x => [(1, .raw (.slice pa P.length pc)), (5, .ptr 3 0), (6, .ptr 5 0), (8, .ptr 7 0), (9, iv x.i)]) (fun x => SSab h x.hs x.v x.ms x.c x.hs' x.v x.ms' x.c' ++ [.cells (vcells v) T_vec_Vec]) (fun x => x.i ≤ P.length ∧ StI x.hs x.v x.ms x.c (n + x.i) ∧ StI x.hs' x.v x.ms' x.c' (n + x.i) ∧ DRF v (lk x.ms) (lk x.ms') ∧ SeenF x.v (lk x.ms) ∧ ∀ r, r < 7 → v r ≤ x.v r) (fun x => P.length - x.i) ⟨0, v, hs, ms, c, hs1, ms1, c'⟩ [0, 1, 2, 3, 4, 5, 6, 7]
    ⟨⟨Nat.zero_le _, hI, hI1, hDR, hSF, fun _ _ => Int.le_refl _⟩, rfl, rfl, rfl⟩ ?_
  rintro ⟨i, u, hs, ms, c, hs', ms', c'⟩ ⟨hi, hI, hI', hD, hS, hup⟩ g
  simp only at hi hI hI' hD hS hup
  refine And.intro (fun h3 => ?_) (fun h3 => ?_)
  · have h3 : (i : Int) < (P.length : Nat) := of_decide_eq_true h3
    have hil : i < P.length := by omega
    have hwi : IntKind.i64.wrap ((i : Int) + 1) = ((i + 1 : Nat) : Int) := wrap64 (by omega)
    obtain ⟨hpa, hp, hcut⟩ := HP (by omega)
    subst hpa
    have hni : (0 : Int) ≤ (i : Int) ∧ (i : Int) < (P.length : Nat) := ⟨Int.natCast_nonneg i, h3⟩
    have ci : V.cut xP (oP + (i : Int).toNat * 14) 14 = some (shcl P[i]) := by rw [Int.toNat_natCast]; exact hcut i hil
    have cs := cut_sub ci 2 7 (by omega)
    generalize P[i] = s at ci cs
    refine And.intro hni ?_
    refine Exists.intro 0 (Exists.intro xP (Exists.intro eP (Exists.intro fP (And.intro hp (Exists.intro _ (And.intro ci ?_))))))
    refine VCall.mk [] (s_long s) ⟨rfl, rfl, rfl⟩ ?_
    rintro _ _ ⟨rfl, rfl⟩
    refine And.intro (fun hq => ?_) (fun hq => VRet.mk [0, 1, 2] (bv true) [.heap h, .heap hs, .heap hs'] ⟨rfl, rfl, rfl⟩ ⟨rfl, _, _, rfl⟩)
    have hsz := longB_no hq
    refine And.intro hni ?_
    refine Exists.intro 0 (Exists.intro xP (Exists.intro eP (Exists.intro fP (And.intro hp (Exists.intro _ (And.intro cs ?_))))))
    refine VCall.mk [] (s_vec_Le v s.seen) ⟨rfl, rfl, rfl⟩ ?_
    rintro _ _ ⟨rfl, rfl⟩
    refine And.intro (fun hq2 => VRet.mk [0, 1, 2] (bv true) [.heap h, .heap hs, .heap hs'] ⟨rfl, rfl, rfl⟩ ⟨rfl, _, _, rfl⟩) (fun hq2 => ?_)
    have hle : ∀ r, r < 7 → v r ≤ s.seen r := leB_iff.1 (by simpa using hq2)
    obtain ⟨hE, hD'⟩ := hD.app hS s hup hle
    obtain ⟨V, hV⟩ : ∃ V, appV u (lk ms) s = V := ⟨_, rfl⟩
    obtain ⟨e, he⟩ : ∃ e, appE u (lk ms) s = e := ⟨_, rfl⟩
    have hV' : appV u (lk ms') s = V := by rw [← hV]; unfold appV; rw [hE]
    have hSF' := hS.app s
    have hup' := appV_up (v := u) (f := lk ms) s
    rw [hV] at hSF' hup'
    refine And.intro hni ?_
    refine Exists.intro 0 (Exists.intro xP (Exists.intro eP (Exists.intro fP (And.intro hp (Exists.intro _ (And.intro ci ?_))))))
    refine And.intro hni ?_
    refine Exists.intro 0 (Exists.intro xP (Exists.intro eP (Exists.intro fP (And.intro hp (Exists.intro _ (And.intro ci ?_))))))
    refine VCall.mk [3, 4, 1, 0] (s_ApplyE h hu hs u ms c (n + i) hI s (by omega) e V he hV) ⟨rfl, rfl, rfl⟩ ?_
    rintro _ _ ⟨hs1, ms1, c1, rfl, rfl, hI1, hF1⟩
    refine And.intro (And.intro hni rfl) (And.intro (Exists.intro 0 (Exists.intro xP (Exists.intro eP (Exists.intro fP (And.intro hp (Exists.intro _ (And.intro ci rfl))))))) ?_)
    refine VCall.mk [5, 6, 2, 0] (s_ApplyE h hu hs' u ms' c' (n + i) hI' s (by omega) e V (by rw [hE]; exact he) hV') ⟨rfl, rfl, rfl⟩ ?_
    rintro _ _ ⟨hs2, ms2, c2, rfl, rfl, hI2, hF2⟩
    rw [← hF1, ← hF2] at hD'
    rw [← hF1] at hSF'
    have hbb := hD'.bytes hI1 hI2
    refine And.intro (fun _ => ?_) (fun k => absurd k (by simp))
    refine VCall.mk [3, 4, 1, 5, 6, 2] (s_StSame hs1 hs2 V V ms1 ms2 c1 c2 _ _ hI1 hI2 (by omega) (by omega)) ⟨rfl, rfl, rfl⟩ ?_
    rintro _ _ ⟨rfl, rfl⟩
    refine And.intro (fun k => absurd hbb (by simpa using k)) (fun _ => ?_)
    refine Exists.intro _ (And.intro hwi ?_)
    exact Exists.intro ⟨i + 1, V, hs1, ms1, c1, hs2, ms2, c2⟩ (Exists.intro [0, 1, 2, 3, 4, 5, 6, 7] (And.intro ⟨⟨hil, hI1, hI2, hD', hSF', fun r hr => Int.le_trans (hup r hr) (hup' r hr)⟩, by simp only; omega⟩ ⟨rfl, rfl, rfl⟩))
  refine VCall.mk [3, 4] (s_Have u ms c) ⟨rfl, rfl, rfl⟩ ?_
  rintro _ _ ⟨rfl, rfl⟩
  refine VCall.mk [5, 6] (s_Have u ms' c') ⟨rfl, rfl, rfl⟩ ?_
  rintro _ _ ⟨rfl, rfl⟩
  refine VRet.mk [0, 1, 2] (bv _) [.heap h, .heap hs, .heap hs'] ⟨rfl, rfl, rfl⟩ ⟨?_, _, _, rfl⟩
  simp
theorem s_StateDrop (h : Nat → Option Obj) (hu : Uni h) (ht : Ten h) (v1 : Value) (L : List SH) (hv1 : RowsIs shcl 14 h v1 L) (v2 : Value) (P : List SH) (hv2 : RowsIs shcl 14 h v2 P) :
    Ctr Tryz.prog F_rostrumlaw14_StateDrop [.raw v1, .raw v2] [.heap h] (fun x H => x = bv true ∧ H = [.heap h]) := ctr_own2 (s_StateDropW h hu ht v1 L hv1 v2 P hv2)
end Go.Proofs

