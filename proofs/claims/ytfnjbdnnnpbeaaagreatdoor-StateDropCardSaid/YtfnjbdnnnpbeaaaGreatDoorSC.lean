/- Part of the proof that the statement named in the last file holds: lemmas of the prover's own. No conditions. -/
import Derived.Test.YtfnjbdnnnpbeaaaGreatDoorSB
import Derived.Test.YtfnjbdnnnpbeaaaGreatDoorVD
namespace Go.Proofs
open Go Go.V Go.Lib
set_option maxRecDepth 100000
set_option linter.unusedVariables false

/-! ### The last block forgotten -/
theorem St.front {ρ : Rho} {H : List SO} {o : SO} {g : Fr} {w : World} (h : St ρ (H ++ [o]) g w) (hp : ∀ x, x ∈ H → plainO x = true) : St ρ H g w := by
  have up : ∀ (k : Nat) x, H[k]? = some x → (H ++ [o])[k]? = some x := fun k x hk => by
    rw [List.getElem?_append_left (List.getElem?_eq_some_iff.1 hk).1]; exact hk
  constructor
  · exact fun k so hk => h.ent k so (up k so hk)
  · exact fun i j si sj b hij hi hj => h.dis i j si sj b hij (up _ _ hi) (up _ _ hj)
  · exact fun i j si g' b hi ho hj => h.gho i j si g' b (up _ _ hi) ho (up _ _ hj)
  · exact h.env
  · exact h.frm
  · exact fun i si b hi => h.frd i si b (up _ _ hi)
  · intro k l e hk
    have := hp _ (List.mem_of_getElem? hk); cases this
  · intro k m s seen st hk
    have := hp _ (List.mem_of_getElem? hk); cases this
  · exact fun j g' b hj => h.hpf j g' b (up _ _ hj)
  · exact fun j i g' b si hj hn hi => h.hpo j i g' b si (up _ _ hj) hn (up _ _ hi)
  · exact fun j i g' b si hj hn hij hi => h.hpc j i g' b si (up _ _ hj) hn hij (up _ _ hi)
/-- With an empty heap of its own that is given up at the end. -/
theorem ctr_own {P : Program} {f : FuncId} {args : List SV} {h : Nat → Option Obj} {b : Bool} (hc : Ctr P f args [.heap h, .heap fun _ => none] (fun x H => x = bv b ∧ ∃ hs, H = [.heap h, .heap hs])) : Ctr P f args [.heap h] (fun x H => x = bv b ∧ H = [.heap h]) := by
  have h1 := ctr_heap0 (H := [.heap h]) hc
  intro ρ g w hS hb
  refine Calls.mono (h1 ρ g w hS hb) ?_
  rintro e w' ⟨ρ', v, H', rfl, hS', hρ, hl, hbl, rfl, hs, rfl⟩
  exact ⟨ρ', bv b, [.heap h], rfl, St.front (H := [.heap h]) hS' (by simp [plainO]), hρ, Nat.le_refl _, rfl, rfl, rfl⟩
theorem ctr_own2 {P : Program} {f : FuncId} {args : List SV} {h : Nat → Option Obj} {b : Bool} (hc : Ctr P f args [.heap h, .heap fun _ => none, .heap fun _ => none] (fun x H => x = bv b ∧ ∃ hs hs', H = [.heap h, .heap hs, .heap hs'])) : Ctr P f args [.heap h] (fun x H => x = bv b ∧ H = [.heap h]) := by
  have h1 := ctr_heap0 (H := [.heap h]) (ctr_heap0 (H := [.heap h, .heap fun _ => none]) hc)
  intro ρ g w hS hb
  refine Calls.mono (h1 ρ g w hS hb) ?_
  rintro e w' ⟨ρ', v, H', rfl, hS', hρ, hl, hbl, rfl, hs, hs', rfl⟩
  exact ⟨ρ', bv b, [.heap h], rfl, St.front (H := [.heap h]) (St.front (H := [.heap h, .heap hs]) hS' (by simp [plainO])) (by simp [plainO]), hρ, Nat.le_refl _, rfl, rfl, rfl⟩
/-! ### Shadows that came in -/
def sev (a b c d e f g : Int) : Nat → Int
  | 0 => a | 1 => b | 2 => c | 3 => d | 4 => e | 5 => f | 6 => g | _ => 0
abbrev shcl (s : SH) : List Value := [.int .i64 s.rep, .int .i64 s.n, .int .i64 (s.seen 0), .int .i64 (s.seen 1), .int .i64 (s.seen 2), .int .i64 (s.seen 3), .int .i64 (s.seen 4), .int .i64 (s.seen 5), .int .i64 (s.seen 6), .int .i64 s.kind, .string s.key, .string s.text, .int .i64 s.by', .int .i64 s.time]
def RowsIs {α : Type} (cl : α → List Value) (k : Nat) (h : Nat → Option Obj) (v : Value) (L : List α) : Prop := ((∃ a c, v = .slice a 0 c) ∧ L = []) ∨
  ∃ (b o c : Nat) (xs : List Value) (e : TypeId) (fr : Nat × Nat), v = .slice (some ⟨b, o, none⟩) L.length c ∧ h b = some (.cells xs.toArray e fr) ∧ ∀ i (hi : i < L.length), V.cut xs (o + i * k) k = some (cl L[i])
theorem RowsIs.shape {α : Type} {cl : α → List Value} {k : Nat} {h : Nat → Option Obj} {v : Value} {L : List α} (hv : RowsIs cl k h v L) : ∃ a c, v = .slice a L.length c := by
  rcases hv with ⟨⟨a, c, rfl⟩, rfl⟩ | ⟨b, o, c, xs, e, fr, rfl, _⟩
  · exact ⟨a, c, rfl⟩
  · exact ⟨_, c, rfl⟩
theorem RowsIs.at {α : Type} {cl : α → List Value} {k : Nat} {h : Nat → Option Obj} {a : Option Addr} {n c : Nat} {L : List α} (hv : RowsIs cl k h (.slice a n c) L) {i : Nat} (hi : i < L.length) :
    ∃ (b o : Nat) (xs : List Value) (e : TypeId) (fr : Nat × Nat), a = some ⟨b, o, none⟩ ∧ h b = some (.cells xs.toArray e fr) ∧ ∀ j (hj : j < L.length), V.cut xs (o + j * k) k = some (cl L[j]) := by
  rcases hv with ⟨h1, rfl⟩ | ⟨b, o, c, xs, e, fr, h1, h2, h3⟩
  · simp at hi
  · cases h1
    exact ⟨b, o, xs, e, fr, rfl, h2, h3⟩
def longB (s : SH) : Bool := decide ((s.key.size : Int) > 100) || decide ((s.text.size : Int) > 150)
/-- Shadows that came in tell of seven replicas alone. -/
def Plain7 (s : SH) : Prop := s.seen = sev (s.seen 0) (s.seen 1) (s.seen 2) (s.seen 3) (s.seen 4) (s.seen 5) (s.seen 6)
/-- Where a row lies, if there is one. -/
theorem RowsIs.pos {α : Type} {cl : α → List Value} {k : Nat} {h : Nat → Option Obj} {a : Option Addr} {n c : Nat} {L : List α} (hv : RowsIs cl k h (.slice a n c) L) :
    ∃ (b o : Nat) (xs : List Value) (e : TypeId) (fr : Nat × Nat), 0 < L.length → a = some ⟨b, o, none⟩ ∧ h b = some (.cells xs.toArray e fr) ∧ ∀ j (hj : j < L.length), V.cut xs (o + j * k) k = some (cl L[j]) := by
  by_cases h0 : 0 < L.length
  · obtain ⟨b, o, xs, e, fr, h1⟩ := hv.at h0
    exact ⟨b, o, xs, e, fr, fun _ => h1⟩
  · exact ⟨0, 0, [], 0, (0, 0), fun h1 => absurd h1 h0⟩
theorem goodName_k : goodName (ByteArray.mk #[107]) = true := by decide +kernel
theorem cut_sub {xs : List Value} {o n : Nat} {l : List Value} (h : V.cut xs o n = some l) (j k : Nat) (hk : j + k ≤ n) : V.cut xs (o + j) k = some ((l.drop j).take k) := by
  obtain ⟨h1, h2⟩ := cut_spec h
  by_cases h0 : k = 0
  · subst h0
    simp only [List.take_zero]
    cases xs <;> cases (o + j) <;> rfl
  · have hlen : o + j + k ≤ xs.length := by
      have h3 := h2 (j + k - 1) (by omega)
      have h4 : j + k - 1 < l.length := by omega
      rw [List.getElem?_eq_getElem h4] at h3
      have := (List.getElem?_eq_some_iff.1 h3.symm).1
      omega
    rw [cut_take xs (o + j) k hlen]
    congr 1
    apply List.ext_getElem?
    intro i
    by_cases hi : i < k
    · rw [List.getElem?_take_of_lt hi, List.getElem?_drop, List.getElem?_take_of_lt hi, List.getElem?_drop, h2 (j + i) (by omega)]
      congr 1; omega
    · rw [List.getElem?_eq_none (by simp; omega), List.getElem?_eq_none (by simp; omega)]
theorem s_long (s : SH) : Ctr Tryz.prog F_rostrumlaw14_long [.agg (shcells s)] [] (fun x H => x = bv (longB s) ∧ H = []) := by
  refine i_rostrumlaw14_long.spec follows ?_
  refine And.intro (fun h => ?_) (fun h => ?_)
  · refine VRet.mk [] (bv _) [] ⟨rfl, rfl, rfl⟩ ⟨?_, rfl⟩
    have h : decide ((s.key.size : Int) > 100) = false := h
    rw [longB, h]; rfl
  · refine VRet.mk [] (bv _) [] ⟨rfl, rfl, rfl⟩ ⟨?_, rfl⟩
    have h : decide ((s.key.size : Int) > 100) = true := h
    rw [longB, h]; rfl
theorem longB_no {s : SH} (h : longB s = false) : s.key.size ≤ 100 ∧ s.text.size ≤ 150 := by
  unfold longB at h
  simp only [Bool.or_eq_false_iff, decide_eq_false_iff_not] at h
  omega
/-! ### What is told of the number -/
abbrev kk : ByteArray := ByteArray.mk #[107]
def B1 : SH := ⟨0, 1, fun _ => 0, 3, kk, ByteArray.mk #[], 5, 0⟩
def B2 : SH := ⟨0, 2, fun i => if i = 0 then 1 else 0, 3, kk, ByteArray.mk #[], -2, 0⟩
theorem goodB1 : goodS B1 = true := by
  have h1 : isDot 0 1 = true := by decide
  have h2 : vgoodB (fun _ => 0) = true := by decide
  simp only [goodS, B1, h1, h2, goodName_k]; decide +kernel
theorem goodB2 : goodS B2 = true := by
  have h1 : isDot 0 2 = true := by decide
  have h2 : vgoodB (fun i => if i = 0 then 1 else 0) = true := by decide
  simp only [goodS, B2, h1, h2, goodName_k]; decide +kernel
abbrev w0 : Nat → Int := fun _ => 0
abbrev w1 : Nat → Int := upv w0 0 1
abbrev w2 : Nat → Int := upv w1 0 2
theorem has0 : has w0 0 1 = false := by decide
theorem ready0 : readyB B1 w0 = true := by decide
theorem has1 : has w1 0 2 = false := by decide
theorem ready1 : readyB B2 w1 = true := by decide
theorem tad1 : tadE vz vz 0 5 = 0 := by decide
theorem tad2 : tadE (upv vz 0 5) vz 0 (-2) = 0 := by decide
theorem tadU1 : tadU vz vz 0 5 = upv vz 0 5 := by unfold tadU; rw [tad1, if_pos ⟨rfl, by decide⟩]; rfl
theorem tadD1 : tadD vz vz 0 5 = vz := by unfold tadD; rw [tad1, if_neg (fun k => absurd k.2 (by decide))]
theorem appE1 (ms : MPV) (hn : lk ms (2, kk) = none) : appE w0 (lk ms) B1 = 0 ∧ appF w0 (lk ms) B1 (2, kk) = some (.num (upv vz 0 5) vz) := by
  have ho : oldA (lk ms) B1 = .num vz vz := by
    unfold oldA
    rw [show atS B1 = (2, kk) from rfl, hn]; rfl
  have hp : putAV (.num vz vz) B1 = (tadE vz vz 0 5, .num (tadU vz vz 0 5) (tadD vz vz 0 5)) := rfl
  have hE : appE w0 (lk ms) B1 = 0 := by
    unfold appE
    rw [goodB1, show has w0 B1.rep B1.n = false from has0, ready0, ho, hp]
    exact tad1
  refine ⟨hE, ?_⟩
  unfold appF
  rw [if_pos ⟨hE, rfl⟩, ho, hp, tadU1, tadD1]
theorem appE2 (ms : MPV) (hn : lk ms (2, kk) = some (.num (upv vz 0 5) vz)) : appE w1 (lk ms) B2 = 0 ∧ appF w1 (lk ms) B2 (2, kk) = some (.num (tadU (upv vz 0 5) vz 0 (-2)) (tadD (upv vz 0 5) vz 0 (-2))) := by
  have ho : oldA (lk ms) B2 = .num (upv vz 0 5) vz := by
    unfold oldA
    rw [show atS B2 = (2, kk) from rfl, hn]; rfl
  have hp : putAV (.num (upv vz 0 5) vz) B2 = (tadE (upv vz 0 5) vz 0 (-2), .num (tadU (upv vz 0 5) vz 0 (-2)) (tadD (upv vz 0 5) vz 0 (-2))) := rfl
  have hE : appE w1 (lk ms) B2 = 0 := by
    unfold appE
    rw [goodB2, show has w1 B2.rep B2.n = false from has1, ready1, ho, hp]
    exact tad2
  refine ⟨hE, ?_⟩
  unfold appF
  rw [if_pos ⟨hE, rfl⟩, ho, hp]
theorem show3 : AV.show (.num (tadU (upv vz 0 5) vz 0 (-2)) (tadD (upv vz 0 5) vz 0 (-2))) = ByteArray.mk #[51] := by
  have h : sumT (tadU (upv vz 0 5) vz 0 (-2)) (tadD (upv vz 0 5) vz 0 (-2)) 7 = 3 := by decide
  show (⟨(itoa (sumT (tadU (upv vz 0 5) vz 0 (-2)) (tadD (upv vz 0 5) vz 0 (-2)) 7)).toArray⟩ : ByteArray) = _
  rw [h]
  have h2 : itoa 3 = [51] := by unfold itoa decDigits; rfl
  rw [h2]
theorem keys1 {ms : MPV} {a : AV} (hk : (ms.map (·.1)).Nodup) (h : ∀ p, (lk ms p).isSome = true ↔ p = (2, kk)) : keysT ms 2 = [kk] := by
  have h1 : ∀ x, x ∈ keysT ms 2 ↔ x = kk := fun x => by
    rw [mem_keysT, ← get_mem]
    have := h (2, x)
    unfold lk at this
    rw [Option.isSome_map] at this
    rw [this]; simp
  have h2 : (keysT ms 2).Nodup := by
    have hd : ∀ ms : MPV, (ms.map (·.1)).Nodup → ((ms.filter (keyE 2)).map (·.1.2)).Nodup := by
      intro ms
      induction ms with
      | nil => intro _; simp
      | cons e ms ih =>
        intro hn
        simp only [List.map_cons, List.nodup_cons] at hn
        by_cases he : keyE 2 e = true
        · rw [List.filter_cons_of_pos he, List.map_cons, List.nodup_cons]
          refine ⟨fun hm => ?_, ih hn.2⟩
          obtain ⟨e', he', h2⟩ := List.mem_map.1 hm
          have h3 := List.mem_filter.1 he'
          apply hn.1
          refine List.mem_map.2 ⟨e', h3.1, ?_⟩
          have h4 : e'.1.1 = 2 := of_decide_eq_true h3.2
          have h5 : e.1.1 = 2 := of_decide_eq_true he
          exact Prod.ext (h4.trans h5.symm) h2
        · rw [List.filter_cons_of_neg he]; exact ih hn.2
    exact (List.mergeSort_perm _ _).nodup_iff.2 (hd ms hk)
  have h3 : (keysT ms 2).Perm [kk] := (List.perm_ext_iff_of_nodup h2 (by simp)).2 fun x => by rw [h1]; simp
  exact List.perm_singleton.1 h3
set_option maxHeartbeats 2000000 in
theorem s_awakeW (h : Nat → Option Obj) (hu : Uni h) (ht : Ten h) : Ctr Tryz.prog F_rostrumlaw14_awake [] [.heap h, .heap fun _ => none] (fun x H => x = bv true ∧ ∃ hs, H = [.heap h, .heap hs]) := by
  refine i_rostrumlaw14_awake.spec follows ?_
  refine VCall.mk [] s_StNew ⟨rfl, rfl, rfl⟩ ?_
  rintro _ _ ⟨rfl, rfl⟩
  refine VCall.mk [2, 3, 1, 0] (s_Apply h hu (fun _ => none) w0 [] 0 0 (StI.new _) B1 (by decide)) ⟨rfl, rfl, rfl⟩ ?_
  rintro _ _ ⟨hs1, ms1, c1, rfl, rfl, hI1, hF1⟩
  obtain ⟨e1, f1⟩ := appE1 [] rfl
  have v1 : appV w0 (lk []) B1 = w1 := by unfold appV; rw [if_pos e1]; rfl
  rw [v1] at hI1 ⊢
  rw [e1]
  have hk1 : lk ms1 (2, kk) = some (.num (upv vz 0 5) vz) := by rw [hF1]; exact f1
  have hA := s_Apply h hu hs1 w1 ms1 c1 1 hI1 B2 (by decide)
  refine VCall.mk [2, 3, 1, 0] hA ⟨rfl, rfl, rfl⟩ ?_
  rintro _ _ ⟨hs2, ms2, c2, rfl, rfl, hI2, hF2⟩
  obtain ⟨e2, f2⟩ := appE2 ms1 hk1
  have v2 : appV w1 (lk ms1) B2 = w2 := by unfold appV; rw [if_pos e2]; rfl
  rw [v2] at hI2 ⊢
  rw [e2]
  have hk2 : lk ms2 (2, kk) = some (.num (tadU (upv vz 0 5) vz 0 (-2)) (tadD (upv vz 0 5) vz 0 (-2))) := by rw [hF2]; exact f2
  have hsh : showF (lk ms2) (2, kk) = ByteArray.mk #[51] := by
    unfold showF; rw [hk2]; exact show3
  have hks : keysT ms2 2 = [kk] := by
    refine keys1 (a := .txt L0v) hI2.km fun p => ?_
    rw [hF2]
    unfold appF
    by_cases hp : p = (2, kk)
    · rw [if_pos ⟨e2, hp⟩]; simp [hp]
    · rw [if_neg (fun k => hp k.2), hF1]
      unfold appF
      rw [if_neg (fun k => hp k.2)]
      simp [lk, get_nil, hp]
  refine And.intro (fun _ => ?_) (fun k => absurd (of_decide_eq_false k) (by decide))
  refine And.intro (fun _ => ?_) (fun k => absurd (of_decide_eq_false k) (by decide))
  have hS := s_StShow h ht hs2 w2 ms2 c2 2 hI2 (by decide) 2 kk
  rw [hsh] at hS
  refine VCall.mk [2, 3, 1, 0] hS ⟨rfl, rfl, rfl⟩ ?_
  rintro _ _ ⟨rfl, rfl⟩
  refine And.intro (fun _ => ?_) (fun k => absurd k (by rw [beq_self_eq_true]; decide))
  refine VCall.mk [2, 3] (s_Have w2 ms2 c2) ⟨rfl, rfl, rfl⟩ ?_
  rintro _ _ ⟨rfl, rfl⟩
  refine And.intro (fun _ => ?_) (fun k => absurd (show true = false from k) (by decide))
  have hK := s_Keys w2 ms2 c2 2 hI2.m hI2.km (by have := hI2.ml; omega) (fun e he => by have := hI2.key e he; omega)
  rw [hks] at hK
  refine VCall.mk [2, 3] hK ⟨rfl, rfl, rfl⟩ ?_
  rintro _ _ ⟨xs, o, cp, rfl, rfl, hr⟩
  refine VCall.mk [4, 5] (s_texts [kk] [kk] xs [.string kk] T_string T_string o cp 0 1 hr ⟨Nat.le_refl _, by simp, rfl⟩ (by decide)) ⟨rfl, rfl, rfl⟩ ?_
  rintro _ _ ⟨rfl, rfl⟩
  exact VRet.mk [0, 1] (bv (decide ([kk] = [kk]))) [.heap h, .heap hs2] ⟨rfl, rfl, rfl⟩ ⟨by rw [decide_eq_true rfl], hs2, rfl⟩
theorem s_awake (h : Nat → Option Obj) (hu : Uni h) (ht : Ten h) : Ctr Tryz.prog F_rostrumlaw14_awake [] [.heap h] (fun x H => x = bv true ∧ H = [.heap h]) := ctr_own (s_awakeW h hu ht)
end Go.Proofs

namespace Go.Proofs
open Go Go.V Go.Lib
set_option maxRecDepth 100000
set_option linter.unusedVariables false

/-! ### Told again -/
theorem appE_ok {v : Nat → Int} {f : PK → Option AV} {s : SH} (h : appE v f s = 0) : goodS s = true ∧ has v s.rep s.n = false ∧ readyB s v = true ∧ (putAV (oldA f s) s).1 = 0 := by
  unfold appE at h
  split at h
  · cases h
  · rename_i h1
    split at h
    · cases h
    · rename_i h2
      split at h
      · cases h
      · rename_i h3
        exact ⟨by simpa using h1, by simpa using h2, by simpa using h3, h⟩
theorem has_upv {v : Nat → Int} {r n : Int} (hr : 0 ≤ r ∧ r < 7) (hn : 1 ≤ n) : has (upv v r.toNat n) r n = true := by
  unfold has upv
  rw [isRep_iff.2 hr]
  simp [hn]
theorem appF_no {v : Nat → Int} {f : PK → Option AV} {s : SH} (h : appE v f s ≠ 0) : appF v f s = f := by
  funext p; unfold appF; rw [if_neg (fun k => h k.1)]
theorem appV_no {v : Nat → Int} {f : PK → Option AV} {s : SH} (h : appE v f s ≠ 0) : appV v f s = v := by
  unfold appV; rw [if_neg h]
structure OX where
  i : Nat
  hs : Nat → Option Obj
  v : Nat → Int
  ms : MPV
  c : Nat
end Go.Proofs

namespace Go.Proofs
open Go Go.V Go.Lib
set_option maxRecDepth 100000
set_option linter.unusedVariables false

/-! ### What values have, was seen -/
def seenA (v : Nat → Int) : AV → Prop
  | .set ms c gs c2 => ∀ e, e ∈ ms → has v e.1.1 e.1.2 = true
  | .num u d => True
  | .txt l => l.b = true → has v l.r l.n = true
theorem seen_new (v : Nat → Int) (k : Int) : seenA v (newAV k) := by
  unfold newAV
  split
  · intro e he; simp at he
  · split
    · trivial
    · intro h; cases h
structure Fine (s : SH) (v : Nat → Int) : Prop where
  rep : 0 ≤ s.rep ∧ s.rep < 7
  n : 1 ≤ s.n ∧ s.n ≤ 1099511627776
  dot : isDot s.rep s.n = true
  seen : vgoodB s.seen = true
  text : s.text.size ≤ 100
  by' : -1099511627776 ≤ s.by' ∧ s.by' ≤ 1099511627776
  time : 0 ≤ s.time ∧ s.time ≤ 1099511627776
  kind : s.kind = 1 ∨ s.kind = 2 ∨ s.kind = 3 ∨ s.kind = 4
  no : has v s.rep s.n = false
  next : v s.rep.toNat = s.n - 1
  le : ∀ i, i < 7 → s.seen i ≤ v i
theorem fine_of {s : SH} {v : Nat → Int} (h1 : goodS s = true) (h2 : readyB s v = true) : Fine s v := by
  have hg := goodS_rep h1
  unfold goodS at h1
  simp only [Bool.and_eq_true, Bool.not_eq_true', decide_eq_false_iff_not, Bool.or_eq_false_iff, decide_eq_true_eq] at h1
  obtain ⟨a1, a2, a3, a4, a5, a6, a7⟩ := h1
  unfold readyB at h2
  simp only [Bool.and_eq_true, Bool.not_eq_true'] at h2
  have hle := leB_iff.1 h2.2
  have hnx := hle s.rep.toNat (by omega)
  have hno := h2.1
  unfold has at hno
  rw [isRep_iff.2 hg.1] at hno
  simp only [Bool.true_and, Bool.and_eq_false_iff, decide_eq_false_iff_not] at hno
  have hk : s.kind = 1 ∨ s.kind = 2 ∨ s.kind = 3 ∨ s.kind = 4 := by
    unfold kindB at a7
    by_cases k1 : s.kind = 1
    · exact .inl k1
    · by_cases k2 : s.kind = 2
      · exact .inr (.inl k2)
      · by_cases k3 : s.kind = 3
        · exact .inr (.inr (.inl k3))
        · by_cases k4 : s.kind = 4
          · exact .inr (.inr (.inr k4))
          · simp [k1, k2, k3, k4] at a7
  exact ⟨hg.1, hg.2, a1, a2, by omega, by omega, by omega, hk, h2.1, by omega, hle⟩
theorem has_mono {v w : Nat → Int} (h : ∀ r, r < 7 → v r ≤ w r) {r n : Int} (hh : has v r n = true) : has w r n = true := by
  unfold has at hh ⊢
  simp only [Bool.and_eq_true, decide_eq_true_eq] at hh ⊢
  have hr := isRep_iff.1 hh.1
  have := h r.toNat (by omega)
  exact ⟨hh.1, hh.2.1, by omega⟩
theorem fine_up {s : SH} {v : Nat → Int} (h : Fine s v) : ∀ r, r < 7 → v r ≤ upv v s.rep.toNat s.n r := by
  intro r hr
  unfold upv
  split
  · rename_i e; subst e; have := h.next; omega
  · exact Int.le_refl _
theorem seen_mono {v w : Nat → Int} (h : ∀ r, r < 7 → v r ≤ w r) {a : AV} (ha : seenA v a) : seenA w a := by
  cases a with
  | set ms c gs c2 => exact fun e he => has_mono h (ha e he)
  | num u d => trivial
  | txt l => exact fun hb => has_mono h (ha hb)
theorem has_up {s : SH} {v : Nat → Int} (h : Fine s v) : has (upv v s.rep.toNat s.n) s.rep s.n = true := has_upv h.rep h.n.1
theorem seen_put {s : SH} {v : Nat → Int} (h : Fine s v) {a : AV} (ha : seenA v a) : seenA (upv v s.rep.toNat s.n) (putAV a s).2 := by
  have hm := seen_mono (fine_up h) ha
  cases a with
  | set ms c gs c2 =>
    simp only [putAV]
    split
    · unfold addM
      split
      · intro e he
        rcases mem_put he with h1 | ⟨h1, _⟩
        · exact hm e h1
        · rw [h1]; exact has_up h
      · exact hm
    · exact hm
  | num u d => trivial
  | txt l =>
    simp only [putAV]
    unfold wrL
    split
    · exact hm
    · split
      · exact hm
      · split
        · exact hm
        · exact fun _ => has_up h
theorem cmpI_eq {a b : Int} (h : cmpI a b = 0) : a = b := by
  unfold cmpI at h
  split at h
  · cases h
  · split at h
    · cases h
    · omega
theorem cmpD_eq {x y : Int × Int} (h : cmpD x y = 0) : x = y := by
  simp only [cmpD, orI] at h
  by_cases h1 : cmpI x.1 y.1 = 0
  · rw [if_neg (by simpa using h1)] at h
    by_cases h2 : cmpI x.2 y.2 = 0
    · exact Prod.ext (cmpI_eq h1) (cmpI_eq h2)
    · rw [if_pos (by simpa using h2)] at h; exact absurd h h2
  · rw [if_pos (by simpa using h1)] at h; exact absurd h h1
theorem ordL_eq {l : LV} {t r n : Int} (h : ordL l t r n = 0) : t = l.t ∧ r = l.r ∧ n = l.n := by
  unfold ordL at h
  simp only [orI] at h
  by_cases h1 : cmpI t l.t = 0
  · rw [if_neg (by simpa using h1)] at h
    have h2 : cmpD (r, n) (l.r, l.n) = 0 := by
      by_cases h2 : cmpD (r, n) (l.r, l.n) = 0
      · exact h2
      · rw [if_pos (by simpa using h2)] at h; exact h
    have h3 := cmpD_eq h2
    injection h3 with h3 h4
    refine ⟨?_, h3, h4⟩
    unfold cmpI at h1
    split at h1
    · cases h1
    · split at h1
      · cases h1
      · omega
  · rw [if_pos (by simpa using h1)] at h; exact absurd h h1
/-- What a value that fits answers: done, or too much. -/
theorem putAV_err {s : SH} {v : Nat → Int} (h : Fine s v) {a : AV} (ha : seenA v a) (hk : a.kind = kindS s) : (putAV a s).1 = 0 ∨ ((putAV a s).1 = 2 ∧ s.kind = 3) := by
  cases a with
  | set ms c gs c2 =>
    left
    have hk : (1 : Int) = kindS s := hk
    have hk12 : s.kind = 1 ∨ s.kind = 2 := by
      rcases h.kind with k | k | k | k
      · exact .inl k
      · exact .inr k
      · unfold kindS at hk; rw [if_pos k] at hk; cases hk
      · unfold kindS at hk; rw [if_neg (by omega), if_pos k] at hk; cases hk
    simp only [putAV]
    split
    · show addE ms s.rep s.n s.text = 0
      unfold addE
      rw [if_neg (by rw [h.dot]; have := h.text; simp; omega)]
      cases hg : MP.get ms (s.rep, s.n) with
      | none => rfl
      | some y =>
        obtain ⟨e, he, h1, h2⟩ := mem_of_get hg
        have := ha e he
        rw [h1, h.no] at this
        cases this
    · show remE s.text s.seen = 0
      unfold remE
      rw [if_neg (by rw [h.seen]; have := h.text; simp; omega)]
  | num u d =>
    have hk : (2 : Int) = kindS s := hk
    have hk3 : s.kind = 3 := by
      unfold kindS at hk
      by_cases k : s.kind = 3
      · exact k
      · rw [if_neg k] at hk; split at hk <;> cases hk
    show tadE u d s.rep s.by' = 0 ∨ (tadE u d s.rep s.by' = 2 ∧ s.kind = 3)
    unfold tadE
    rw [if_neg (by rw [isRep_iff.2 h.rep]; have := h.by'; simp; omega)]
    by_cases hb : s.by' < 0
    · rw [if_pos hb]
      by_cases h2 : 1125899906842624 - d s.rep.toNat < -s.by'
      · rw [if_pos h2]; exact .inr ⟨rfl, hk3⟩
      · rw [if_neg h2]; exact .inl rfl
    · rw [if_neg hb]
      by_cases h2 : 1125899906842624 - u s.rep.toNat < s.by'
      · rw [if_pos h2]; exact .inr ⟨rfl, hk3⟩
      · rw [if_neg h2]; exact .inl rfl
  | txt l =>
    left
    show (wrL l s.text s.time s.rep s.n).1.2 = 0
    unfold wrL
    rw [if_neg (by unfold badL; rw [h.dot]; have := h.text; have := h.time; simp; omega)]
    by_cases h1 : l.b = true ∧ ordL l s.time s.rep s.n < 0
    · rw [if_pos h1]
    · rw [if_neg h1]
      by_cases h2 : l.b = true ∧ ordL l s.time s.rep s.n = 0
      · obtain ⟨_, hr, hn⟩ := ordL_eq h2.2
        have := ha h2.1
        rw [← hr, ← hn, h.no] at this
        cases this
      · rw [if_neg h2]
/-- All values of a state have what was seen alone, and stand at their kinds. -/
structure SeenF (v : Nat → Int) (f : PK → Option AV) : Prop where
  seen : ∀ p a, f p = some a → seenA v a
  kind : ∀ p a, f p = some a → a.kind = p.1
theorem SeenF.new (v : Nat → Int) (ms : MPV) (hn : ms = []) : SeenF v (lk ms) := by
  subst hn
  exact ⟨fun p a h => by simp [lk, get_nil] at h, fun p a h => by simp [lk, get_nil] at h⟩
theorem SeenF.old {v : Nat → Int} {f : PK → Option AV} (h : SeenF v f) (s : SH) : seenA v (oldA f s) ∧ (oldA f s).kind = kindS s := by
  unfold oldA
  cases hf : f (atS s) with
  | none => exact ⟨seen_new v _, newAV_kind (kindS_bd s)⟩
  | some a => exact ⟨h.seen _ _ hf, h.kind _ _ hf⟩
theorem SeenF.app {v : Nat → Int} {f : PK → Option AV} (h : SeenF v f) (s : SH) : SeenF (appV v f s) (appF v f s) := by
  by_cases hE : appE v f s = 0
  · obtain ⟨h1, h2, h3, h4⟩ := appE_ok hE
    have hF := fine_of h1 h3
    obtain ⟨o1, o2⟩ := h.old s
    have hV : appV v f s = upv v s.rep.toNat s.n := by unfold appV; rw [if_pos hE]
    rw [hV]
    have hA : ∀ p, appF v f s p = if p = atS s then some (putAV (oldA f s) s).2 else f p := fun p => by
      unfold appF
      by_cases hp : p = atS s
      · rw [if_pos ⟨hE, hp⟩, if_pos hp]
      · rw [if_neg (fun k => hp k.2), if_neg hp]
    have hkk : (putAV (oldA f s) s).2.kind = (oldA f s).kind := by
      cases oldA f s with
      | set ms c gs c2 => simp only [putAV]; split <;> rfl
      | num u d => rfl
      | txt l => rfl
    refine ⟨fun p a ha => ?_, fun p a ha => ?_⟩
    · rw [hA] at ha
      split at ha
      · cases ha; exact seen_put hF o1
      · exact seen_mono (fine_up hF) (h.seen p a ha)
    · rw [hA] at ha
      split at ha
      · rename_i hp
        cases ha; rw [hkk, o2, hp]
      · exact h.kind p a ha
  · rw [appV_no hE, appF_no hE]; exact h
structure GX where
  i : Nat
  hs : Nat → Option Obj
  v : Nat → Int
  ms : MPV
  c : Nat
end Go.Proofs

namespace Go.Proofs
open Go Go.V Go.Lib
set_option maxRecDepth 100000
set_option linter.unusedVariables false

/-! ### What lies behind a face in a heap -/
theorem s_AsSetH (hs : Nat → Option Obj) (fp : List Nat) (v : Value) (ms : MS) (c : Nat) (gs : GM) (c2 : Nat) (hv : ValAt hs fp v (.set ms c gs c2)) : Ctr Tryz.prog F_value_AsSet [.raw v] [.heap hs] (fun x H => ∃ b, fp[0]? = some b ∧ x = .tup [.raw (.pointer (some ⟨b, 0, none⟩)), bv true] ∧ H = [.heap hs]) := by
  obtain ⟨b, h0, rfl⟩ := hv.at'
  refine ctr_open (G := []) (as' := [(AV.set ms c gs c2).sym]) (Ho := (AV.set ms c gs c2).blk) (Post := fun x H => x = .tup [.ptr 0 0, bv true] ∧ H = SO2 ms c gs c2) (by rw [List.append_nil]; exact s_AsSet_S ms c gs c2) fp hs hv.len hv.nd (AV.cm _) (AV.okb _) (by simp) hv.obj ?_ ?_ ?_
  · intro ρ ρ' h1 _
    simp only [valL]
    rw [(AV.set ms c gs c2).val_sym h0 ρ h1]
    simp [V.val]
  · intro _
    simp only [belowL, Bool.and_eq_true]
    exact ⟨(AV.set ms c gs c2).bel_sym _ (by simp), trivial⟩
  · rintro v0 H0 ⟨rfl, rfl⟩
    refine ⟨(AV.set ms c gs c2).blk, [], .tup [.raw (.pointer (some ⟨b, 0, none⟩)), bv true], by rw [List.append_nil]; rfl, rfl, AV.cm _, AV.okb _, by simp, ?_, fun _ => rfl, b, h0, rfl, by rw [updA_same _ _ _ _ hv.obj]⟩
    intro ρ ρ' h1 _
    have : ρ 0 = some b := by rw [h1 0 (by simp [AV.blk]), h0]
    simp [V.val, valL, this]
abbrev SSTk (k : Nat) (v : Nat → Int) (ms : MPV) (c : Nat) : List SO := [.cells (vcells v ++ [.mp k]) T_state_State, .map (ents encP encVV ms) c]
theorem s_StSame (hs hs' : Nat → Option Obj) (v v' : Nat → Int) (ms ms' : MPV) (c c' N N' : Nat) (hI : StI hs v ms c N) (hI' : StI hs' v' ms' c' N') (hN : N ≤ 100) (hN' : N' ≤ 100) :
    Ctr Tryz.prog F_state_Same [.ptr 0 0, .ptr 3 0] (SST v ms c ++ [.heap hs] ++ SSTk 4 v' ms' c' ++ [.heap hs']) (fun x H => x = bv (decide (stB v ms = stB v' ms')) ∧ H = SST v ms c ++ [.heap hs] ++ SSTk 4 v' ms' c' ++ [.heap hs']) := by
  refine i_state_Same.spec follows ?_
  refine VCall.mk [0, 1, 2] (s_Bytes hs v ms c N hI hN) ⟨rfl, rfl, rfl⟩ ?_
  rintro _ _ ⟨o1, c1, y1, rfl, rfl, b1⟩
  refine VCall.mk [3, 4, 5] (s_Bytes hs' v' ms' c' N' hI' hN') ⟨rfl, rfl, rfl⟩ ?_
  rintro _ _ ⟨o2, c2, y2, rfl, rfl, b2⟩
  refine VCall.mk [6, 7] (s_bytes_Equal _ _ y1 y2 T_uint8 T_uint8 o1 c1 o2 c2 b1 b2 (stB_byt v ms) (stB_byt v' ms')) ⟨rfl, rfl, rfl⟩ ?_
  rintro _ _ ⟨rfl, rfl⟩
  exact VRet.mk [0, 1, 2, 3, 4, 5] (bv (decide (stB v ms = stB v' ms'))) (SST v ms c ++ [.heap hs] ++ SSTk 4 v' ms' c' ++ [.heap hs']) ⟨rfl, rfl, rfl⟩ ⟨rfl, rfl⟩
end Go.Proofs

namespace Go.Proofs
open Go Go.V Go.Lib
set_option maxRecDepth 100000
set_option linter.unusedVariables false

/-! ### What chapter 14 says -/
abbrev xx : ByteArray := ByteArray.mk #[120]
abbrev aa : ByteArray := ByteArray.mk #[97]
abbrev tt : ByteArray := ByteArray.mk #[116]
abbrev nn : ByteArray := ByteArray.mk #[]
abbrev s10 : Nat → Int := fun i => if i = 0 then 1 else 0
abbrev s11 : Nat → Int := fun i => if i = 0 then 1 else if i = 1 then 1 else 0
def K1 : SH := ⟨0, 2, s10, 3, kk, nn, 5, 0⟩
def K2 : SH := ⟨0, 0, fun _ => 0, 0, nn, nn, 0, 0⟩
def K3 : SH := ⟨0, 1, fun _ => 0, 1, kk, xx, 0, 0⟩
def K5 : SH := ⟨1, 1, s10, 2, kk, xx, 0, 0⟩
def K6 : SH := ⟨1, 2, s11, 4, aa, tt, 0, 0⟩
theorem goodName_a : goodName aa = true := by decide +kernel
theorem goodK1 : goodS K1 = true := by
  have h1 : isDot 0 2 = true := by decide
  have h2 : vgoodB s10 = true := by decide
  simp only [goodS, K1, h1, h2, goodName_k]; decide +kernel
theorem goodK2 : goodS K2 = false := by
  have h1 : isDot 0 0 = false := by decide
  simp only [goodS, K2, h1]; rfl
theorem goodK3 : goodS K3 = true := by
  have h1 : isDot 0 1 = true := by decide
  have h2 : vgoodB (fun _ => 0) = true := by decide
  simp only [goodS, K3, h1, h2, goodName_k]; decide +kernel
theorem goodK5 : goodS K5 = true := by
  have h1 : isDot 1 1 = true := by decide
  have h2 : vgoodB s10 = true := by decide
  simp only [goodS, K5, h1, h2, goodName_k]; decide +kernel
theorem goodK6 : goodS K6 = true := by
  have h1 : isDot 1 2 = true := by decide
  have h2 : vgoodB s11 = true := by decide
  simp only [goodS, K6, h1, h2, goodName_a]; decide +kernel
abbrev M1 : MS := [((0, 1), xx, 0)]
def G1 : GM := [(xx, vmax vz s10, 0)]
abbrev u2 : Nat → Int := upv w1 1 1
abbrev u3 : Nat → Int := upv u2 1 2
theorem k1 (f : PK → Option AV) : appE w0 f K1 = 8 := by
  unfold appE
  rw [goodK1, show has w0 K1.rep K1.n = false by decide, show readyB K1 w0 = false by decide]; rfl
theorem k2 (f : PK → Option AV) : appE w0 f K2 = 1 := by
  unfold appE
  rw [goodK2]; rfl
theorem k3 (f : PK → Option AV) (hf : f (1, kk) = none) : appE w0 f K3 = 0 ∧ appV w0 f K3 = w1 ∧ appF w0 f K3 = fun p => if p = (1, kk) then some (.set M1 1 [] 0) else f p := by
  have ho : oldA f K3 = .set [] 0 [] 0 := by
    unfold oldA
    rw [show atS K3 = (1, kk) from rfl, hf]; rfl
  have hp : putAV (.set [] 0 [] 0) K3 = (0, .set M1 1 [] 0) := by
    show (addE [] 0 1 xx, AV.set (addM [] 0 0 1 xx) (addC [] 0 0 1 xx) [] 0) = _
    have h0 : addE [] 0 1 xx = 0 := by decide
    unfold addM addC
    rw [h0]; rfl
  have hE : appE w0 f K3 = 0 := by
    unfold appE
    rw [goodK3, show has w0 K3.rep K3.n = false by decide, show readyB K3 w0 = true by decide, ho, hp]; rfl
  refine ⟨hE, by unfold appV; rw [if_pos hE]; rfl, ?_⟩
  funext p
  unfold appF
  rw [ho, hp, show atS K3 = (1, kk) from rfl]
  by_cases h : p = (1, kk)
  · rw [if_pos ⟨hE, h⟩, if_pos h]
  · rw [if_neg (fun k => h k.2), if_neg h]
theorem k4 (f : PK → Option AV) : appE w1 f K3 = 5 := by
  unfold appE
  rw [goodK3, show has w1 K3.rep K3.n = true by decide]; rfl
theorem k5 (f : PK → Option AV) (hf : f (1, kk) = some (.set M1 1 [] 0)) : appE w1 f K5 = 0 ∧ appV w1 f K5 = u2 ∧ appF w1 f K5 = fun p => if p = (1, kk) then some (.set M1 1 G1 1) else f p := by
  have ho : oldA f K5 = .set M1 1 [] 0 := by
    unfold oldA
    rw [show atS K5 = (1, kk) from rfl, hf]; rfl
  have hp : putAV (.set M1 1 [] 0) K5 = (0, .set M1 1 G1 1) := by
    have h0 : remE xx s10 = 0 := by decide
    have h1 : putAV (.set M1 1 [] 0) K5 = (remE xx s10, AV.set M1 1 (remG [] 0 xx s10) (remC [] 0 xx s10)) := by
      unfold putAV
      exact if_neg (show ¬ K5.kind = 1 by decide)
    rw [h1]
    unfold remG remC
    rw [h0]; rfl
  have hE : appE w1 f K5 = 0 := by
    unfold appE
    rw [goodK5, show has w1 K5.rep K5.n = false by decide, show readyB K5 w1 = true by decide, ho, hp]; rfl
  refine ⟨hE, by unfold appV; rw [if_pos hE]; rfl, ?_⟩
  funext p
  unfold appF
  rw [ho, hp, show atS K5 = (1, kk) from rfl]
  by_cases h : p = (1, kk)
  · rw [if_pos ⟨hE, h⟩, if_pos h]
  · rw [if_neg (fun k => h k.2), if_neg h]
theorem k6 (f : PK → Option AV) (hf : f (3, aa) = none) : appE u2 f K6 = 0 ∧ appV u2 f K6 = u3 ∧ appF u2 f K6 = fun p => if p = (3, aa) then some (.txt ⟨true, tt, 0, 1, 2⟩) else f p := by
  have ho : oldA f K6 = .txt L0v := by
    unfold oldA
    rw [show atS K6 = (3, aa) from rfl, hf]; rfl
  have hp : putAV (.txt L0v) K6 = (0, .txt ⟨true, tt, 0, 1, 2⟩) := by
    have hb : ¬ badL tt 0 1 2 := by decide
    have hw : wrL L0v tt 0 1 2 = ((true, 0), ⟨true, tt, 0, 1, 2⟩) := by
      unfold wrL
      rw [if_neg hb, if_neg (fun k => absurd k.1 (by decide)), if_neg (fun k => absurd k.1 (by decide))]
    show ((wrL L0v tt 0 1 2).1.2, AV.txt (wrL L0v tt 0 1 2).2) = _
    rw [hw]
  have hE : appE u2 f K6 = 0 := by
    unfold appE
    rw [goodK6, show has u2 K6.rep K6.n = false by decide, show readyB K6 u2 = true by decide, ho, hp]; rfl
  refine ⟨hE, by unfold appV; rw [if_pos hE]; rfl, ?_⟩
  funext p
  unfold appF
  rw [ho, hp, show atS K6 = (3, aa) from rfl]
  by_cases h : p = (3, aa)
  · rw [if_pos ⟨hE, h⟩, if_pos h]
  · rw [if_neg (fun k => h k.2), if_neg h]
end Go.Proofs

namespace Go.Proofs
open Go Go.V Go.Lib
set_option maxRecDepth 100000
set_option linter.unusedVariables false

/-! ### A state is what was applied, in any order -/
def sumI (f : SH → Int) : List SH → Int
  | [] => 0
  | s :: l => f s + sumI f l
theorem sumI_app (f : SH → Int) : ∀ (l m : List SH), sumI f (l ++ m) = sumI f l + sumI f m
  | [], m => by simp [sumI]
  | s :: l, m => by simp [sumI, sumI_app f l m]; omega
def upB (r : Nat) (s : SH) : Int := if s.rep.toNat = r ∧ 0 ≤ s.by' then s.by' else 0
def dnB (r : Nat) (s : SH) : Int := if s.rep.toNat = r ∧ s.by' < 0 then -s.by' else 0
/-- The greatest of what was seen when a text was taken away. -/
structure GMax (B : List SH) (x : ByteArray) (r : Nat) (g : Int) : Prop where
  ge : ∀ s, s ∈ B → s.kind ≠ 1 → s.text = x → s.seen r ≤ g
  is : g = 0 ∨ ∃ s, s ∈ B ∧ s.kind ≠ 1 ∧ s.text = x ∧ s.seen r = g
  pos : 0 ≤ g
/-- What a value is, of those that were applied to it. -/
def SpecA (B : List SH) : AV → Prop
  | .set ms c gs c2 => (∀ d x, MP.get ms d = some x ↔ ∃ s, s ∈ B ∧ s.kind = 1 ∧ (s.rep, s.n) = d ∧ s.text = x) ∧ ∀ x r, r < 7 → GMax B x r (goneAt gs x r)
  | .num u d => ∀ r, r < 7 → u r = sumI (upB r) B ∧ d r = sumI (dnB r) B
  | .txt l => (B = [] ∧ l = L0v) ∨ (l.b = true ∧ (∃ s, s ∈ B ∧ l = ⟨true, s.text, s.time, s.rep, s.n⟩) ∧ ∀ s, s ∈ B → ¬ 0 < ordL l s.time s.rep s.n)
theorem spec_new (k : Int) : SpecA [] (newAV k) := by
  unfold newAV
  split
  · refine ⟨fun d x => by simp [get_nil], fun x r _ => ⟨by simp, .inl rfl, Int.le_refl _⟩⟩
  · split
    · intro r _; exact ⟨rfl, rfl⟩
    · exact .inl ⟨rfl, rfl⟩
theorem ordL_trans {l : LV} {s t : SH} (h1 : ¬ ordL l s.time s.rep s.n < 0) (h2 : ¬ 0 < ordL l t.time t.rep t.n) : ¬ 0 < ordL ⟨true, s.text, s.time, s.rep, s.n⟩ t.time t.rep t.n := by
  unfold ordL cmpD cmpI at *
  simp only [orI] at *
  intro h3
  by_cases a1 : s.time < l.t
  · simp [a1] at h1
  · by_cases a2 : l.t < t.time
    · have : ¬ t.time < l.t := by omega
      simp [a2, this] at h2
    · by_cases b1 : t.time < s.time
      · simp [b1] at h3
      · have e1 : s.time = l.t := by omega
        have e2 : t.time = l.t := by omega
        simp only [e1, e2, Int.lt_irrefl, if_false, ne_eq, not_true_eq_false] at h1 h2 h3
        by_cases c1 : s.rep < l.r
        · simp [c1] at h1
        · by_cases c2 : l.r < t.rep
          · have : ¬ t.rep < l.r := by omega
            simp [c2, this] at h2
          · by_cases d1 : t.rep < s.rep
            · simp [d1] at h3
            · have e3 : s.rep = l.r := by omega
              have e4 : t.rep = l.r := by omega
              simp only [e3, e4, Int.lt_irrefl, if_false, ne_eq, not_true_eq_false] at h1 h2 h3
              by_cases f1 : s.n < l.n
              · simp [f1] at h1
              · by_cases f2 : l.n < t.n
                · have : ¬ t.n < l.n := by omega
                  simp [f2, this] at h2
                · by_cases g1 : t.n < s.n
                  · simp [g1] at h3
                  · have e5 : s.n = l.n := by omega
                    have e6 : t.n = l.n := by omega
                    simp [e5, e6] at h3
theorem ordL_self (l : LV) : ordL l l.t l.r l.n = 0 := by
  unfold ordL cmpD cmpI; simp [orI]
/-- One more is applied. -/
theorem spec_put {B : List SH} {a : AV} {s : SH} {v : Nat → Int} (h : SpecA B a) (hF : Fine s v) (hs : seenA v a) (hk : a.kind = kindS s) (he : (putAV a s).1 = 0) : SpecA (B ++ [s]) (putAV a s).2 := by
  cases a with
  | set ms c gs c2 =>
    obtain ⟨h1, h2⟩ := h
    simp only [putAV] at he ⊢
    split
    · rename_i k1
      rw [if_pos k1] at he
      have he : addE ms s.rep s.n s.text = 0 := he
      have hno : MP.get ms (s.rep, s.n) = none := by
        cases hg : MP.get ms (s.rep, s.n) with
        | none => rfl
        | some y =>
          obtain ⟨e, h3, h4, _⟩ := mem_of_get hg
          have := hs e h3
          rw [h4, hF.no] at this; cases this
      refine ⟨fun d x => ?_, fun x r hr => ?_⟩
      · show MP.get (addM ms c s.rep s.n s.text) d = some x ↔ _
        unfold addM
        rw [if_pos he, get_put]
        by_cases hd : d = (s.rep, s.n)
        · rw [if_pos hd]
          constructor
          · intro hx
            exact ⟨s, by simp, k1, hd.symm, Option.some.inj hx⟩
          · rintro ⟨t, ht, t1, t2, t3⟩
            rcases List.mem_append.1 ht with ht | ht
            · have := (h1 d x).2 ⟨t, ht, t1, t2, t3⟩
              rw [hd, hno] at this; cases this
            · have : t = s := by simpa using ht
              rw [← t3, this]
        · rw [if_neg hd, h1]
          constructor
          · rintro ⟨t, ht, t1⟩; exact ⟨t, by simp [ht], t1⟩
          · rintro ⟨t, ht, t1, t2, t3⟩
            rcases List.mem_append.1 ht with ht | ht
            · exact ⟨t, ht, t1, t2, t3⟩
            · have : t = s := by simpa using ht
              rw [this] at t2; exact absurd t2.symm hd
      · obtain ⟨g1, g2, g3⟩ := h2 x r hr
        refine ⟨fun t ht t1 t2 => ?_, ?_, g3⟩
        · rcases List.mem_append.1 ht with ht | ht
          · exact g1 t ht t1 t2
          · have : t = s := by simpa using ht
            rw [this] at t1; exact absurd k1 t1
        · rcases g2 with g2 | ⟨t, t1, t2⟩
          · exact .inl g2
          · exact .inr ⟨t, by simp [t1], t2⟩
    · rename_i k1
      rw [if_neg k1] at he
      have he : remE s.text s.seen = 0 := he
      refine ⟨fun d x => ?_, fun x r hr => ?_⟩
      · rw [h1]
        constructor
        · rintro ⟨t, ht, t1⟩; exact ⟨t, by simp [ht], t1⟩
        · rintro ⟨t, ht, t1, t2⟩
          rcases List.mem_append.1 ht with ht | ht
          · exact ⟨t, ht, t1, t2⟩
          · have : t = s := by simpa using ht
            rw [this] at t1; exact absurd t1 k1
      · have hg : goneAt (remG gs c2 s.text s.seen) x r = if x = s.text then vmax (goneAt gs s.text) s.seen r else goneAt gs x r := by
          unfold remG goneAt
          rw [if_pos he, get_put]
          by_cases hx : x = s.text
          · rw [if_pos hx, if_pos hx]; rfl
          · rw [if_neg hx, if_neg hx]
        rw [hg]
        obtain ⟨g1, g2, g3⟩ := h2 x r hr
        by_cases hx : x = s.text
        · rw [if_pos hx]
          subst hx
          unfold vmax
          by_cases hgt : s.seen r > goneAt gs s.text r
          · rw [if_pos hgt]
            refine ⟨fun t ht t1 t2 => ?_, .inr ⟨s, by simp, k1, rfl, rfl⟩, by omega⟩
            rcases List.mem_append.1 ht with ht | ht
            · have := g1 t ht t1 t2; omega
            · have : t = s := by simpa using ht
              rw [this]; exact Int.le_refl _
          · rw [if_neg hgt]
            refine ⟨fun t ht t1 t2 => ?_, ?_, g3⟩
            · rcases List.mem_append.1 ht with ht | ht
              · exact g1 t ht t1 t2
              · have : t = s := by simpa using ht
                rw [this]; omega
            · rcases g2 with g2 | ⟨t, t1, t2⟩
              · exact .inl g2
              · exact .inr ⟨t, by simp [t1], t2⟩
        · rw [if_neg hx]
          refine ⟨fun t ht t1 t2 => ?_, ?_, g3⟩
          · rcases List.mem_append.1 ht with ht | ht
            · exact g1 t ht t1 t2
            · have : t = s := by simpa using ht
              rw [this] at t2; exact absurd t2.symm hx
          · rcases g2 with g2 | ⟨t, t1, t2⟩
            · exact .inl g2
            · exact .inr ⟨t, by simp [t1], t2⟩
  | num u d =>
    have he : tadE u d s.rep s.by' = 0 := he
    intro r hr
    obtain ⟨h1, h2⟩ := h r hr
    have hU : tadU u d s.rep s.by' r = u r + upB r s := by
      unfold tadU upB
      by_cases hb : s.by' < 0
      · rw [if_neg (fun k => k.2 hb), if_neg (fun k => by omega)]; omega
      · rw [if_pos ⟨he, hb⟩]
        unfold upv
        by_cases e : r = s.rep.toNat
        · rw [if_pos e, if_pos ⟨e.symm, by omega⟩, e]
        · rw [if_neg e, if_neg (fun k => e k.1.symm)]; omega
    have hD : tadD u d s.rep s.by' r = d r + dnB r s := by
      unfold tadD dnB
      by_cases hb : s.by' < 0
      · rw [if_pos ⟨he, hb⟩]
        unfold upv
        by_cases e : r = s.rep.toNat
        · rw [if_pos e, if_pos ⟨e.symm, hb⟩, e]
        · rw [if_neg e, if_neg (fun k => e k.1.symm)]; omega
      · rw [if_neg (fun k => hb k.2), if_neg (fun k => hb k.2)]; omega
    show tadU u d s.rep s.by' r = _ ∧ tadD u d s.rep s.by' r = _
    rw [hU, hD, sumI_app, sumI_app, ← h1, ← h2]
    simp [sumI]
  | txt l =>
    have he : (wrL l s.text s.time s.rep s.n).1.2 = 0 := he
    show SpecA (B ++ [s]) (.txt (wrL l s.text s.time s.rep s.n).2)
    have hbad : ¬ badL s.text s.time s.rep s.n := by
      intro k; unfold wrL at he; rw [if_pos k] at he; cases he
    unfold wrL
    rw [if_neg hbad]
    rcases h with ⟨rfl, rfl⟩ | ⟨hb, ⟨t, ht, hl⟩, hmax⟩
    · rw [if_neg (fun k => by cases k.1), if_neg (fun k => by cases k.1)]
      refine .inr ⟨rfl, ⟨s, by simp, rfl⟩, fun t ht => ?_⟩
      have : t = s := by simpa using ht
      rw [this, show ordL ⟨true, s.text, s.time, s.rep, s.n⟩ s.time s.rep s.n = 0 from ordL_self ⟨true, s.text, s.time, s.rep, s.n⟩]; decide
    · by_cases h1 : ordL l s.time s.rep s.n < 0
      · rw [if_pos ⟨hb, h1⟩]
        refine .inr ⟨hb, ⟨t, by simp [ht], hl⟩, fun u hu => ?_⟩
        rcases List.mem_append.1 hu with hu | hu
        · exact hmax u hu
        · have : u = s := by simpa using hu
          rw [this]
          show ¬ 0 < ordL l s.time s.rep s.n
          omega
      · rw [if_neg (fun k => h1 k.2)]
        by_cases h2 : ordL l s.time s.rep s.n = 0
        · obtain ⟨_, hr, hn⟩ := ordL_eq h2
          have := hs hb
          rw [← hr, ← hn, hF.no] at this
          cases this
        · rw [if_neg (fun k => h2 k.2)]
          refine .inr ⟨rfl, ⟨s, by simp, rfl⟩, fun u hu => ?_⟩
          rcases List.mem_append.1 hu with hu | hu
          · exact ordL_trans h1 (hmax u hu)
          · have : u = s := by simpa using hu
            rw [this, show ordL ⟨true, s.text, s.time, s.rep, s.n⟩ s.time s.rep s.n = 0 from ordL_self ⟨true, s.text, s.time, s.rep, s.n⟩]; decide
end Go.Proofs

namespace Go.Proofs
open Go Go.V Go.Lib
set_option maxRecDepth 100000
set_option linter.unusedVariables false

/-! ### Values that are alike -/
theorem has_congr {v w : Nat → Int} (h : ∀ r, r < 7 → v r = w r) (r n : Int) : has v r n = has w r n := by
  unfold has
  by_cases hr : isRep r = true
  · have := isRep_iff.1 hr
    rw [h r.toNat (by omega)]
  · rw [Bool.eq_false_iff.2 hr]; simp
theorem vecB_congr {v w : Nat → Int} : ∀ n, (∀ r, r < n → v r = w r) → vecB v n = vecB w n
  | 0, _ => rfl
  | n + 1, h => by rw [vecB, vecB, vecB_congr n fun r hr => h r (by omega), h n (by omega)]
theorem stB_same {v v' : Nat → Int} {ms ms' : MPV} (hv : ∀ r, r < 7 → v r = v' r) (hk : (ms.map (·.1)).Nodup) (hk' : (ms'.map (·.1)).Nodup) (h : ∀ p, (lk ms p).map AV.bytes = (lk ms' p).map AV.bytes) : stB v ms = stB v' ms' := by
  have hi : ∀ p, (lk ms p).isSome = (lk ms' p).isSome := fun p => by
    have := congrArg Option.isSome (h p)
    simpa using this
  have hkeys : ∀ k, keysT ms k = keysT ms' k := by
    intro k
    have hs : ∀ ms : MPV, ∀ p, (lk ms p).isSome = true ↔ p ∈ ms.map (·.1) := fun ms p => by
      rw [← get_mem]; unfold lk; cases MP.get ms p <;> simp
    have nd : ∀ ms : MPV, (ms.map (·.1)).Nodup → ((ms.filter (keyE k)).map (·.1.2)).Nodup := by
      intro ms
      induction ms with
      | nil => intro _; simp
      | cons e ms ih =>
        intro hn
        simp only [List.map_cons, List.nodup_cons] at hn
        by_cases he : keyE k e = true
        · rw [List.filter_cons_of_pos he, List.map_cons, List.nodup_cons]
          refine ⟨fun hm => ?_, ih hn.2⟩
          obtain ⟨e', he', h2⟩ := List.mem_map.1 hm
          have h3 := List.mem_filter.1 he'
          apply hn.1
          refine List.mem_map.2 ⟨e', h3.1, ?_⟩
          have h4 : e'.1.1 = k := of_decide_eq_true h3.2
          have h5 : e.1.1 = k := of_decide_eq_true he
          exact Prod.ext (h4.trans h5.symm) h2
        · rw [List.filter_cons_of_neg he]; exact ih hn.2
    refine sortK_uniq ((List.mergeSort_perm _ _).trans ?_) (sortK_pw _)
    refine (List.perm_ext_iff_of_nodup (nd ms hk) (nd ms' hk')).2 fun x => ?_
    have h1 := mem_keysT (ms := ms) (k := k) (x := x)
    have h2 := mem_keysT (ms := ms') (k := k) (x := x)
    rw [keysT, mem_sortK] at h1 h2
    rw [h1, h2, ← hs, ← hs, hi]
  have hb : ∀ p, bytesAt (lk ms) p = bytesAt (lk ms') p := fun p => by unfold bytesAt; rw [h]
  have hp : ∀ u, preB ms u = preB ms' u := by
    intro u
    induction u with
    | zero => rfl
    | succ u ih =>
      rw [preB, preB, ih, kB, kB, hkeys]
      congr 1
      congr 1
      funext x
      unfold entB; rw [hb]
  rw [stB, stB, hp, vecB_congr 7 hv]
/-! ### Those that were applied -/
inductive RS (L : List SH) : (Nat → Int) → (PK → Option AV) → List SH → Prop
  | new : RS L (fun _ => 0) (fun _ => none) []
  | app {v : Nat → Int} {f : PK → Option AV} {A : List SH} {s : SH} (h : RS L v f A) (hs : s ∈ L) (he : appE v f s = 0) : RS L (appV v f s) (appF v f s) (A ++ [s])
structure RSI (L : List SH) (v : Nat → Int) (f : PK → Option AV) (A : List SH) : Prop where
  sub : ∀ s, s ∈ A → s ∈ L
  vb : ∀ r n, has v r n = true ↔ ∃ s, s ∈ A ∧ s.rep = r ∧ s.n = n
  v0 : ∀ r, r < 7 → 0 ≤ v r
  nd : A.Nodup
  seen : SeenF v f
  non : ∀ p, f p = none → ∀ s, s ∈ A → atS s ≠ p
  som : ∀ p a, f p = some a → SpecA (A.filter fun s => decide (atS s = p)) a
  ex : ∀ p a, f p = some a → ∃ s, s ∈ A ∧ atS s = p
theorem has_upv_iff {v : Nat → Int} {s : SH} (hF : Fine s v) (r n : Int) : has (upv v s.rep.toNat s.n) r n = true ↔ has v r n = true ∨ (s.rep = r ∧ s.n = n) := by
  unfold has upv
  have hr := hF.rep
  have hx := hF.next
  have hn := hF.n
  by_cases h : isRep r = true
  · have h7 := isRep_iff.1 h
    simp only [h, Bool.true_and, Bool.and_eq_true, decide_eq_true_eq]
    by_cases e : r.toNat = s.rep.toNat
    · rw [if_pos e, e, hx]
      have : s.rep = r := by omega
      constructor
      · rintro ⟨h1, h2⟩
        by_cases h3 : n = s.n
        · exact .inr ⟨this, h3.symm⟩
        · exact .inl ⟨h1, by omega⟩
      · rintro (⟨h1, h2⟩ | ⟨_, h2⟩)
        · exact ⟨h1, by omega⟩
        · exact ⟨by omega, by omega⟩
    · rw [if_neg e]
      constructor
      · intro h1; exact .inl h1
      · rintro (h1 | ⟨h1, _⟩)
        · exact h1
        · exact absurd (by rw [h1]) e
  · have h9 : isRep r = false := by simpa using h
    simp only [h9, Bool.false_and, Bool.false_eq_true, false_or, false_iff, not_and]
    rintro rfl
    rw [isRep_iff.2 hr] at h9; cases h9
theorem RS.rsi {L : List SH} {v : Nat → Int} {f : PK → Option AV} {A : List SH} (h : RS L v f A) : RSI L v f A := by
  induction h with
  | new =>
    refine ⟨by simp, fun r n => ?_, fun r _ => Int.le_refl _, by simp, ⟨fun p a h => (by cases h), fun p a h => (by cases h)⟩, fun p _ => by simp, fun p a h => (by cases h), fun p a h => (by cases h)⟩
    constructor
    · intro h
      unfold has at h
      simp only [Bool.and_eq_true, decide_eq_true_eq] at h
      omega
    · rintro ⟨s, h, _⟩; simp at h
  | @app v f A s h hs he ih =>
    obtain ⟨h1, h2, h3, h4⟩ := appE_ok he
    have hF := fine_of h1 h3
    have hV : appV v f s = upv v s.rep.toNat s.n := by unfold appV; rw [if_pos he]
    have hA : ∀ p, appF v f s p = if p = atS s then some (putAV (oldA f s) s).2 else f p := fun p => by
      unfold appF
      by_cases hp : p = atS s
      · rw [if_pos ⟨he, hp⟩, if_pos hp]
      · rw [if_neg (fun k => hp k.2), if_neg hp]
    have hnot : s ∉ A := fun k => by
      have := (ih.vb s.rep s.n).2 ⟨s, k, rfl, rfl⟩
      rw [h2] at this; cases this
    have hfilt : ∀ p, (A ++ [s]).filter (fun s => decide (atS s = p)) = A.filter (fun s => decide (atS s = p)) ++ (if atS s = p then [s] else []) := fun p => by
      rw [List.filter_append]
      by_cases hp : atS s = p
      · rw [if_pos hp, List.filter_cons_of_pos (by simpa using hp)]; rfl
      · rw [if_neg hp, List.filter_cons_of_neg (by simpa using hp)]; rfl
    have hsn := ih.seen.app s
    obtain ⟨o1, o2⟩ := ih.seen.old s
    rw [hV] at hsn ⊢
    refine ⟨fun t ht => ?_, fun r n => ?_, fun r hr => ?_, ?_, hsn, fun p hp t ht => ?_, fun p a hp => ?_, fun p a hp => ?_⟩
    · rcases List.mem_append.1 ht with k | k
      · exact ih.sub t k
      · have : t = s := by simpa using k
        rw [this]; exact hs
    · rw [has_upv_iff hF, ih.vb]
      constructor
      · rintro (⟨t, t1, t2⟩ | h5)
        · exact ⟨t, by simp [t1], t2⟩
        · exact ⟨s, by simp, h5⟩
      · rintro ⟨t, t1, t2⟩
        rcases List.mem_append.1 t1 with k | k
        · exact .inl ⟨t, k, t2⟩
        · have : t = s := by simpa using k
          rw [this] at t2; exact .inr t2
    · have := fine_up hF r hr; have := ih.v0 r hr; omega
    · rw [List.nodup_append]
      exact ⟨ih.nd, by simp, fun a ha b hb => by simp at hb; subst hb; exact fun e => hnot (e ▸ ha)⟩
    · rw [hA] at hp
      split at hp
      · cases hp
      · rename_i hne
        rcases List.mem_append.1 ht with k | k
        · exact ih.non p hp t k
        · have : t = s := by simpa using k
          rw [this]; exact fun e => hne e.symm
    · rw [hA] at hp
      rw [hfilt]
      split at hp
      · rename_i e
        cases hp
        rw [if_pos e.symm]
        refine spec_put ?_ hF o1 o2 h4
        unfold oldA
        rw [← e]
        cases hf : f p with
        | none =>
          have : A.filter (fun s => decide (atS s = p)) = [] := List.filter_eq_nil_iff.2 fun t ht => by simpa using ih.non p hf t ht
          rw [this]; exact spec_new _
        | some a => exact ih.som p a hf
      · rename_i hne
        rw [if_neg (fun e => hne e.symm), List.append_nil]
        exact ih.som p a hp
    · rw [hA] at hp
      split at hp
      · rename_i e; exact ⟨s, by simp, e.symm⟩
      · obtain ⟨t, t1, t2⟩ := ih.ex p a hp
        exact ⟨t, by simp [t1], t2⟩
theorem RSI.len {L : List SH} {v : Nat → Int} {f : PK → Option AV} {A : List SH} (h : RSI L v f A) : A.length ≤ L.length := by
  classical exact nodup_len h.nd h.sub
/-- Nothing of them may be applied any more. -/
def StuckS (L : List SH) (v : Nat → Int) (f : PK → Option AV) : Prop := ∀ s, s ∈ L → appE v f s ≠ 0
def SmallBy (L : List SH) : Prop := ∀ s, s ∈ L → -1073741824 ≤ s.by' ∧ s.by' ≤ 1073741824
theorem sum_bd {f : SH → Int} {l : List SH} (h : ∀ s, s ∈ l → f s ≤ 1073741824) : sumI f l ≤ 1073741824 * (l.length : Int) := by
  induction l with
  | nil => simp [sumI]
  | cons s l ih =>
    have h1 := h s (by simp)
    have h2 := ih fun t ht => h t (by simp [ht])
    rw [sumI, List.length_cons]; omega
/-- A shadow that is ready, of few that are small, is applied. -/
theorem RSI.takes {L : List SH} {v : Nat → Int} {f : PK → Option AV} {A : List SH} (h : RSI L v f A) (hL : L.length ≤ 1000) (hB : SmallBy L) {s : SH} (hs : s ∈ L) (h1 : goodS s = true) (h2 : readyB s v = true) : appE v f s = 0 := by
  have hF := fine_of h1 h2
  obtain ⟨o1, o2⟩ := h.seen.old s
  unfold appE
  rw [if_neg (by rw [h1]; decide), if_neg (by rw [hF.no]; decide), if_neg (by rw [h2]; decide)]
  rcases putAV_err hF o1 o2 with h3 | ⟨h3, hk⟩
  · exact h3
  · exfalso
    have hal := h.len
    have hA := hB s hs
    have bd : ∀ r, r < 7 → ∀ u d, oldA f s = .num u d → u r ≤ 1073741824 * 1000 ∧ d r ≤ 1073741824 * 1000 := by
      intro r hr u d ho
      unfold oldA at ho
      cases hf : f (atS s) with
      | none =>
        rw [hf] at ho
        have : newAV (kindS s) = .num vz vz := by unfold kindS; rw [if_pos hk]; rfl
        simp only [Option.getD_none] at ho
        rw [this] at ho
        injection ho with e1 e2
        subst e1 e2
        exact ⟨by show (0 : Int) ≤ _; decide, by show (0 : Int) ≤ _; decide⟩
      | some a =>
        rw [hf] at ho
        have ho : a = .num u d := ho
        have hsp := h.som _ _ hf
        rw [ho] at hsp
        obtain ⟨e1, e2⟩ := hsp r hr
        have hfl := List.length_filter_le (fun t => decide (atS t = atS s)) A
        have b1 := sum_bd (f := upB r) (l := A.filter fun t => decide (atS t = atS s)) fun t ht => by
          have := hB t (h.sub t (List.mem_filter.1 ht).1)
          unfold upB; split <;> omega
        have b2 := sum_bd (f := dnB r) (l := A.filter fun t => decide (atS t = atS s)) fun t ht => by
          have := hB t (h.sub t (List.mem_filter.1 ht).1)
          unfold dnB; split <;> omega
        omega
    cases ho : oldA f s with
    | set ms c gs c2 =>
      rw [ho] at o2
      have o2 : (1 : Int) = kindS s := o2
      unfold kindS at o2; rw [if_pos hk] at o2; cases o2
    | txt l =>
      rw [ho] at o2
      have o2 : (3 : Int) = kindS s := o2
      unfold kindS at o2; rw [if_pos hk] at o2; cases o2
    | num u d =>
      rw [ho] at h3
      have h3 : tadE u d s.rep s.by' = 2 := h3
      have := bd s.rep.toNat (by have := hF.rep; omega) u d ho
      unfold tadE at h3
      rw [if_neg (by rw [isRep_iff.2 hF.rep]; have := hF.by'; simp; omega)] at h3
      by_cases hb : s.by' < 0
      · rw [if_pos hb, if_neg (by omega)] at h3; cases h3
      · rw [if_neg hb, if_neg (by omega)] at h3; cases h3
theorem RS.under {L : List SH} (hL : L.length ≤ 1000) (hB : SmallBy L) (hD : ∀ s t, s ∈ L → t ∈ L → s.rep = t.rep → s.n = t.n → s = t) {v v' : Nat → Int} {f f' : PK → Option AV} {A A' : List SH} (h : RS L v f A) (h' : RS L v' f' A') (hst : StuckS L v' f') : ∀ s, s ∈ A → s ∈ A' := by
  have hI' := h'.rsi
  induction h with
  | new => intro s hs; simp at hs
  | @app v f A s h hs he ih =>
    intro t ht
    rcases List.mem_append.1 ht with k | k
    · exact ih t k
    · have : t = s := by simpa using k
      subst this
      refine Classical.byContradiction fun hno => ?_
      obtain ⟨h1, h2, h3, h4⟩ := appE_ok he
      have hI := h.rsi
      have hno2 : has v' t.rep t.n = false := by
        rw [Bool.eq_false_iff]
        intro hh
        obtain ⟨u, u1, u2, u3⟩ := (hI'.vb _ _).1 hh
        exact hno (hD u t (hI'.sub u u1) hs u2 u3 ▸ u1)
      have hle : ∀ r, r < 7 → v r ≤ v' r := by
        intro r hr
        have hv0 := hI.v0 r hr
        have hv0' := hI'.v0 r hr
        by_cases h0 : v r = 0
        · omega
        · have hh : has v (r : Int) (v r) = true := by
            unfold has; rw [isRep_iff.2 ⟨by omega, by omega⟩, Int.toNat_natCast]; simp; omega
          obtain ⟨u, u1, u2, u3⟩ := (hI.vb _ _).1 hh
          have := (hI'.vb _ _).2 ⟨u, ih u u1, u2, u3⟩
          unfold has at this
          rw [Int.toNat_natCast] at this
          simp only [Bool.and_eq_true, decide_eq_true_eq] at this
          exact this.2.2
      have hr : readyB t v' = true := by
        unfold readyB at h3 ⊢
        simp only [Bool.and_eq_true, Bool.not_eq_true'] at h3 ⊢
        refine ⟨hno2, leB_iff.2 fun i hi => ?_⟩
        have := leB_iff.1 h3.2 i hi
        have := hle i hi
        omega
      exact hst t hs (hI'.takes hL hB hs h1 hr)
end Go.Proofs

namespace Go.Proofs
open Go Go.V Go.Lib
set_option maxRecDepth 100000
set_option linter.unusedVariables false

/-! ### A turn over a row -/
/-- A state that a run over the row has made. -/
def StR (L : List SH) (hs : Nat → Option Obj) (v : Nat → Int) (ms : MPV) (c : Nat) (A : List SH) : Prop := StI hs v ms c A.length ∧ RS L v (lk ms) A
theorem StR.new (L : List SH) : StR L (fun _ => none) w0 [] 0 [] := ⟨StI.new _, RS.new⟩
def Turn (L : List SH) (t : Nat) (T : Nat → Prop) (v : Nat → Int) (f : PK → Option AV) (A : List SH) : Prop :=
  t + 1 ≤ A.length ∨ (t ≤ A.length ∧ ∀ j s, T j → L[j]? = some s → appE v f s ≠ 0) ∨ StuckS L v f
def Done (L : List SH) (t : Nat) (v : Nat → Int) (f : PK → Option AV) (A : List SH) : Prop := t ≤ A.length ∨ StuckS L v f
theorem Done.turn {L : List SH} {t : Nat} {v : Nat → Int} {f : PK → Option AV} {A : List SH} (h : Done L t v f A) {T : Nat → Prop} (hT : ∀ j, j < L.length → ¬ T j) : Turn L t T v f A := by
  rcases h with h | h
  · exact .inr (.inl ⟨h, fun j s hj hs => absurd hj (hT j (List.getElem?_eq_some_iff.1 hs).1)⟩)
  · exact .inr (.inr h)
theorem Turn.done {L : List SH} {t : Nat} {v : Nat → Int} {f : PK → Option AV} {A : List SH} {T : Nat → Prop} (h : Turn L t T v f A) (hT : ∀ j, j < L.length → T j) : Done L (t + 1) v f A := by
  rcases h with h | ⟨h1, h2⟩ | h
  · exact .inl h
  · refine .inr fun s hs => ?_
    obtain ⟨j, hj⟩ := List.getElem?_of_mem hs
    exact h2 j s (hT j (List.getElem?_eq_some_iff.1 hj).1) hj
  · exact .inr h
/-- What one more shadow does. -/
def Step1 (L : List SH) (s : SH) (v : Nat → Int) (f : PK → Option AV) (A : List SH) (v' : Nat → Int) (f' : PK → Option AV) (A' : List SH) : Prop :=
  (appE v f s ≠ 0 ∧ v' = v ∧ f' = f ∧ A' = A) ∨ (appE v f s = 0 ∧ A'.length = A.length + 1)
theorem Turn.step {L : List SH} {t : Nat} {v v' : Nat → Int} {f f' : PK → Option AV} {A A' : List SH} {T T' : Nat → Prop} {i : Nat} {s : SH} (hi : L[i]? = some s) (h : Turn L t T v f A) (hs : Step1 L s v f A v' f' A') (hT : ∀ j, T' j → T j ∨ j = i) : Turn L t T' v' f' A' := by
  rcases hs with ⟨h0, rfl, rfl, rfl⟩ | ⟨h0, h1⟩
  · rcases h with h | ⟨h1, h2⟩ | h
    · exact .inl h
    · refine .inr (.inl ⟨h1, fun j x hj hx => ?_⟩)
      rcases hT j hj with h3 | rfl
      · exact h2 j x h3 hx
      · rw [hi] at hx; cases hx; exact h0
    · exact .inr (.inr h)
  · rcases h with h | ⟨h3, h2⟩ | h
    · exact .inl (by omega)
    · exact .inl (by omega)
    · exact absurd h0 (h s (List.mem_of_getElem? hi))
abbrev EM : Nat → Option Obj := fun _ => none
structure OY where
  i : Nat
structure OZ where
  i : Nat
  hs : Nat → Option Obj
  v : Nat → Int
  ms : MPV
  c : Nat
  A : List SH
abbrev SSab (h hs : Nat → Option Obj) (v : Nat → Int) (ms : MPV) (c : Nat) (hs' : Nat → Option Obj) (v' : Nat → Int) (ms' : MPV) (c' : Nat) : List SO :=
  [.heap h, .heap hs, .heap hs', .cells (vcells v ++ [.mp 4]) T_state_State, .map (ents encP encVV ms) c, .cells (vcells v' ++ [.mp 6]) T_state_State, .map (ents encP encVV ms') c']
end Go.Proofs

namespace Go.Proofs
open Go Go.V Go.Lib
set_option maxRecDepth 100000
set_option linter.unusedVariables false

/-! ### What all have seen is forgotten: a set -/
theorem s_Drop_2 (x : ByteArray) (v w : Nat → Int) : Ctr Tryz.prog F_orset_Set_Drop_2 [.raw (.string x), .agg (vcells v), .ptr 0 0] [.cells (vcells w) T_vec_Vec] (fun y H => y = bv (leB v w) ∧ H = [.cells (vcells w) T_vec_Vec]) := by
  refine i_orset_Set_Drop_2.spec follows ?_
  refine VCall.mk [] (s_vec_Le v w) ⟨rfl, rfl, rfl⟩ ?_
  rintro _ _ ⟨rfl, rfl⟩
  exact VRet.mk [0] (bv (leB v w)) [.cells (vcells w) T_vec_Vec] ⟨rfl, rfl, rfl⟩ ⟨rfl, rfl⟩
abbrev SOb (w : Nat → Int) (ms : MS) (c : Nat) (gs : GM) (c2 : Nat) : List SO := [.cells [.ptr 2 0] T_p_orset_Set, .cells (vcells w) T_vec_Vec, .cells [.mp 3, .mp 4] T_orset_Set, .map (ents encD encT ms) c, .map (ents encT encV gs) c2]
theorem s_Drop_1 (r n : Int) (x : ByteArray) (w : Nat → Int) (ms : MS) (c : Nat) (gs : GM) (c2 : Nat) : Ctr Tryz.prog F_orset_Set_Drop_1 [.agg (dcells r n), .raw (.string x), .ptr 0 0, .ptr 1 0] (SOb w ms c gs c2) (fun y H => y = bv (has (goneAt gs x) r n && has w r n) ∧ H = SOb w ms c gs c2) := by
  refine i_orset_Set_Drop_1.spec follows ?_
  refine VCall.mk [2, 3, 4] (s_live ms c gs c2 r n x) ⟨rfl, rfl, rfl⟩ ?_
  rintro _ _ ⟨rfl, rfl⟩
  refine And.intro (fun h => ?_) (fun h => ?_)
  · refine VCall.mk [] (s_vec_Has w r n) ⟨rfl, rfl, rfl⟩ ?_
    rintro _ _ ⟨rfl, rfl⟩
    have h : has (goneAt gs x) r n = true := by simpa using h
    exact VRet.mk [0, 1, 2, 3, 4] (bv (has w r n)) (SOb w ms c gs c2) ⟨rfl, rfl, rfl⟩ ⟨by rw [h, Bool.true_and], rfl⟩
  · have h : has (goneAt gs x) r n = false := by simpa using h
    exact VRet.mk [0, 1, 2, 3, 4] (bv false) (SOb w ms c gs c2) ⟨rfl, rfl, rfl⟩ ⟨by rw [h, Bool.false_and], rfl⟩
structure DXD where
  ms : MS
  seen : List Nat
  pre : MS
structure DXG where
  ms : GM
  seen : List Nat
  pre : GM
theorem key_inj {K V : Type} {ms : List (K × V × Nat)} (hk : (ms.map (·.1)).Nodup) {x y : K × V × Nat} (hx : x ∈ ms) (hy : y ∈ ms) (h : x.1 = y.1) : x = y := by
  induction ms with
  | nil => simp at hx
  | cons z ms ih =>
    simp only [List.map_cons, List.nodup_cons] at hk
    rcases List.mem_cons.1 hx with h1 | h1 <;> rcases List.mem_cons.1 hy with h2 | h2
    · rw [h1, h2]
    · exact absurd (List.mem_map.2 ⟨y, h2, by rw [← h, h1]⟩) hk.1
    · exact absurd (List.mem_map.2 ⟨x, h1, by rw [h, h2]⟩) hk.1
    · exact ih hk.2 h1 h2
theorem mem_del {K V : Type} [DecidableEq K] {ms : List (K × V × Nat)} (hk : (ms.map (·.1)).Nodup) {p : K} {e : K × V × Nat} : e ∈ MP.del ms p ↔ e ∈ ms ∧ e.1 ≠ p := by
  constructor
  · intro h
    refine ⟨(del_sub ms p).subset h, fun k => ?_⟩
    have := get_of_mem (nodup_del hk p) h
    rw [get_del ms p e.1 hk, if_pos k] at this; cases this
  · rintro ⟨h, h1⟩
    have := get_of_mem hk h
    have h2 : MP.get (MP.del ms p) e.1 = some e.2.1 := by rw [get_del ms p e.1 hk, if_neg h1]; exact this
    obtain ⟨e', he', h3, h4⟩ := mem_of_get h2
    rw [← key_inj hk ((del_sub ms p).subset he') h h3]; exact he'
/-- How a loop that deletes stands. -/
structure Del {K V : Type} [DecidableEq K] (f : K × V × Nat → Bool) (ms ms' : List (K × V × Nat)) (c : Nat) (pre : List (K × V × Nat)) (seen : List Nat) : Prop where
  m : MOK ms' c
  k : (ms'.map (·.1)).Nodup
  b : Been ms pre seen
  sub : ∀ y, y ∈ ms' → y ∈ ms
  all : ∀ y, y ∈ ms → y ∈ ms' ∨ f y = true
  out : ∀ y, y ∈ pre → f y = true → y ∉ ms'
theorem Del.new {K V : Type} [DecidableEq K] {f : K × V × Nat → Bool} {ms : List (K × V × Nat)} {c : Nat} (hm : MOK ms c) (hk : (ms.map (·.1)).Nodup) : Del f ms ms c [] [] :=
  ⟨hm, hk, Been.nil _, fun _ h => h, fun _ h => .inl h, by simp⟩
theorem Del.no {K V : Type} [DecidableEq K] {f : K × V × Nat → Bool} {ms ms' : List (K × V × Nat)} {c : Nat} {pre : List (K × V × Nat)} {seen : List Nat} (h : Del f ms ms' c pre seen) {x : K × V × Nat} (hx : x ∈ ms') (hns : x.2.2 ∉ seen) (hf : f x = false) : Del f ms ms' c (pre ++ [x]) (seen ++ [x.2.2]) := by
  refine ⟨h.m, h.k, h.b.more (h.sub x hx) hns, h.sub, h.all, fun y hy hv => ?_⟩
  rcases List.mem_append.1 hy with hy | hy
  · exact h.out y hy hv
  · simp at hy; subst hy; rw [hf] at hv; cases hv
theorem Del.yes {K V : Type} [DecidableEq K] {f : K × V × Nat → Bool} {ms ms' : List (K × V × Nat)} {c : Nat} {pre : List (K × V × Nat)} {seen : List Nat} (hk : (ms.map (·.1)).Nodup) (h : Del f ms ms' c pre seen) {x : K × V × Nat} (hx : x ∈ ms') (hns : x.2.2 ∉ seen) (hf : f x = true) : Del f ms (MP.del ms' x.1) c (pre ++ [x]) (seen ++ [x.2.2]) := by
  have hx' := h.sub x hx
  refine ⟨h.m.del _, nodup_del h.k _, h.b.more hx' hns, fun y hy => h.sub y ((del_sub _ _).subset hy), fun y hy => ?_, fun y hy hv hym => ?_⟩
  · rcases h.all y hy with h1 | h1
    · by_cases hyx : y.1 = x.1
      · rw [key_inj hk hy hx' hyx]; exact .inr hf
      · exact .inl ((mem_del h.k).2 ⟨h1, hyx⟩)
    · exact .inr h1
  · have := (mem_del h.k).1 hym
    rcases List.mem_append.1 hy with hy | hy
    · exact h.out y hy hv this.1
    · simp at hy; subst hy; exact this.2 rfl
theorem Del.end {K V : Type} [DecidableEq K] {f : K × V × Nat → Bool} {ms ms' : List (K × V × Nat)} {c : Nat} {pre : List (K × V × Nat)} {seen : List Nat} (hm : MOK ms c) (h : Del f ms ms' c pre seen) (hall : ∀ x, x ∈ ms' → x.2.2 ∈ seen) : ∀ y, y ∈ ms' ↔ y ∈ ms ∧ f y = false := by
  intro y
  constructor
  · intro hy
    refine ⟨h.sub y hy, ?_⟩
    cases hf : f y with
    | false => rfl
    | true => exact absurd hy (h.out y (h.b.all hm.2 (h.sub y hy) (hall y hy)) hf)
  · rintro ⟨hy, hf⟩
    rcases h.all y hy with h1 | h1
    · exact h1
    · rw [hf] at h1; cases h1
def delD (gs : GM) (w : Nat → Int) (e : (Int × Int) × ByteArray × Nat) : Bool := has (goneAt gs e.2.1) e.1.1 e.1.2 && has w e.1.1 e.1.2
def delG (w : Nat → Int) (e : ByteArray × (Nat → Int) × Nat) : Bool := leB e.2.1 w
theorem s_DelD (w : Nat → Int) (ms : MS) (c : Nat) (gs : GM) (c2 : Nat) (hm : MOK ms c) (hk : (ms.map (·.1)).Nodup) : Ctr Tryz.prog F_maps_DeleteFunc_map_api_Dot_string_api_Dot_string [.mp 0, .fn F_orset_Set_Drop_1 [.ptr 1 0, .ptr 2 0]]
    [.map (ents encD encT ms) c, .cells [.ptr 3 0] T_p_orset_Set, .cells (vcells w) T_vec_Vec, .cells [.mp 0, .mp 4] T_orset_Set, .map (ents encT encV gs) c2]
    (fun x H => x = .tup [] ∧ ∃ ms', H = [.map (ents encD encT ms') c, .cells [.ptr 3 0] T_p_orset_Set, .cells (vcells w) T_vec_Vec, .cells [.mp 0, .mp 4] T_orset_Set, .map (ents encT encV gs) c2] ∧ MOK ms' c ∧ (ms'.map (·.1)).Nodup ∧ ∀ y, y ∈ ms' ↔ y ∈ ms ∧ delD gs w y = false) := by
  refine i_maps_DeleteFunc_map_api_Dot_string_api_Dot_string.spec follows ?_
  refine VLoop.mk DXD (fun x => [(0, .mp 0), (1, .fn F_orset_Set_Drop_1 [.ptr 1 0, .ptr 2 0]), (7, .ptr 5 0)]) (fun x => [.map (ents encD encT x.ms) c, .cells [.ptr 3 0] T_p_orset_Set, .cells (vcells w) T_vec_Vec, .cells [.mp 0, .mp 4] T_orset_Set, .map (ents encT encV gs) c2, .iter (some 0) c x.seen c])
    (fun x => Del (delD gs w) ms x.ms c x.pre x.seen) (fun x => ms.length - x.pre.length) ⟨ms, [], []⟩ [0, 1, 2, 3, 4, 5] ⟨Del.new hm hk, rfl, rfl, rfl⟩ ?_
  rintro ⟨ms', seen, pre⟩ hd g
  simp only at hd
  refine And.intro ⟨?_, Nat.le_refl _⟩ (And.intro (fun hall => ?_) (fun e he hns => ?_))
  · intro e he
    obtain ⟨x, hx, rfl⟩ := List.mem_map.1 he
    exact hd.m.1 x hx
  · exact VRet.mk [0, 1, 2, 3, 4] (.tup []) [.map (ents encD encT ms') c, .cells [.ptr 3 0] T_p_orset_Set, .cells (vcells w) T_vec_Vec, .cells [.mp 0, .mp 4] T_orset_Set, .map (ents encT encV gs) c2] ⟨rfl, rfl, rfl⟩ ⟨rfl, ms', rfl, hd.m, hd.k, hd.end hm fun x hx => hall _ (List.mem_map.2 ⟨x, hx, rfl⟩)⟩
  · obtain ⟨x, hx, rfl⟩ := List.mem_map.1 he
    have hns : x.2.2 ∉ seen := hns
    have hlen : ms.length - (pre ++ [x]).length < ms.length - pre.length := hd.b.len (hd.sub x hx) hns
    refine Exists.intro x.2.2 (Exists.intro (ent encD encT x) (And.intro (last_snoc _ _) (And.intro (find_ents hd.m.2 hx) (And.intro rfl ?_))))
    refine And.intro (by kernel_rfl) (VCall.mk [1, 2, 3, 0, 4] (s_Drop_1 x.1.1 x.1.2 x.2.1 w ms' c gs c2) ⟨rfl, rfl, rfl⟩ ?_)
    rintro _ _ ⟨rfl, rfl⟩
    refine And.intro (fun hh => ?_) (fun hh => ?_)
    · refine Exists.intro _ (And.intro (delete_is kT ms' x.1) ?_)
      exact Exists.intro ⟨MP.del ms' x.1, seen ++ [x.2.2], pre ++ [x]⟩ (Exists.intro [0, 1, 2, 3, 4, 5] (And.intro ⟨hd.yes hk hx hns hh, hlen⟩ ⟨rfl, rfl, rfl⟩))
    · exact Exists.intro ⟨ms', seen ++ [x.2.2], pre ++ [x]⟩ (Exists.intro [0, 1, 2, 3, 4, 5] (And.intro ⟨hd.no hx hns hh, hlen⟩ ⟨rfl, rfl, rfl⟩))
theorem s_DelG (w : Nat → Int) (gs : GM) (c2 : Nat) (hm : MOK gs c2) (hk : (gs.map (·.1)).Nodup) : Ctr Tryz.prog F_maps_DeleteFunc_map_string_vec_Vec_string_vec_Vec [.mp 0, .fn F_orset_Set_Drop_2 [.ptr 1 0]]
    [.map (ents encT encV gs) c2, .cells (vcells w) T_vec_Vec]
    (fun x H => x = .tup [] ∧ ∃ gs', H = [.map (ents encT encV gs') c2, .cells (vcells w) T_vec_Vec] ∧ MOK gs' c2 ∧ (gs'.map (·.1)).Nodup ∧ ∀ y, y ∈ gs' ↔ y ∈ gs ∧ delG w y = false) := by
  refine i_maps_DeleteFunc_map_string_vec_Vec_string_vec_Vec.spec follows ?_
  refine VLoop.mk DXG (fun x => [(0, .mp 0), (1, .fn F_orset_Set_Drop_2 [.ptr 1 0]), (7, .ptr 2 0)]) (fun x => [.map (ents encT encV x.ms) c2, .cells (vcells w) T_vec_Vec, .iter (some 0) c2 x.seen c2])
    (fun x => Del (delG w) gs x.ms c2 x.pre x.seen) (fun x => gs.length - x.pre.length) ⟨gs, [], []⟩ [0, 1, 2] ⟨Del.new hm hk, rfl, rfl, rfl⟩ ?_
  rintro ⟨gs', seen, pre⟩ hd g
  simp only at hd
  refine And.intro ⟨?_, Nat.le_refl _⟩ (And.intro (fun hall => ?_) (fun e he hns => ?_))
  · intro e he
    obtain ⟨x, hx, rfl⟩ := List.mem_map.1 he
    exact hd.m.1 x hx
  · exact VRet.mk [0, 1] (.tup []) [.map (ents encT encV gs') c2, .cells (vcells w) T_vec_Vec] ⟨rfl, rfl, rfl⟩ ⟨rfl, gs', rfl, hd.m, hd.k, hd.end hm fun x hx => hall _ (List.mem_map.2 ⟨x, hx, rfl⟩)⟩
  · obtain ⟨x, hx, rfl⟩ := List.mem_map.1 he
    have hns : x.2.2 ∉ seen := hns
    have hlen : gs.length - (pre ++ [x]).length < gs.length - pre.length := by classical exact hd.b.len (hd.sub x hx) hns
    refine Exists.intro x.2.2 (Exists.intro (ent encT encV x) (And.intro (last_snoc _ _) (And.intro (find_ents hd.m.2 hx) (And.intro rfl ?_))))
    refine And.intro (by kernel_rfl) (VCall.mk [1] (s_Drop_2 x.1 x.2.1 w) ⟨rfl, rfl, rfl⟩ ?_)
    rintro _ _ ⟨rfl, rfl⟩
    refine And.intro (fun hh => ?_) (fun hh => ?_)
    · refine Exists.intro _ (And.intro (delete_is kG gs' x.1) ?_)
      exact Exists.intro ⟨MP.del gs' x.1, seen ++ [x.2.2], pre ++ [x]⟩ (Exists.intro [0, 1, 2] (And.intro ⟨hd.yes hk hx hns hh, hlen⟩ ⟨rfl, rfl, rfl⟩))
    · exact Exists.intro ⟨gs', seen ++ [x.2.2], pre ++ [x]⟩ (Exists.intro [0, 1, 2] (And.intro ⟨hd.no hx hns hh, hlen⟩ ⟨rfl, rfl, rfl⟩))
theorem s_SDrop (w : Nat → Int) (ms : MS) (c : Nat) (gs : GM) (c2 : Nat) (hm : MOK ms c) (hk : (ms.map (·.1)).Nodup) (hm2 : MOK gs c2) (hk2 : (gs.map (·.1)).Nodup) : Ctr Tryz.prog F_orset_Set_Drop [.ptr 0 0, .agg (vcells w)] (SO2 ms c gs c2)
    (fun x H => x = .tup [] ∧ ∃ ms' gs', H = SO2 ms' c gs' c2 ∧ MOK ms' c ∧ (ms'.map (·.1)).Nodup ∧ (∀ y, y ∈ ms' ↔ y ∈ ms ∧ delD gs w y = false) ∧ MOK gs' c2 ∧ (gs'.map (·.1)).Nodup ∧ ∀ y, y ∈ gs' ↔ y ∈ gs ∧ delG w y = false) := by
  refine i_orset_Set_Drop.spec follows ?_
  refine VCall.mk [1, 3, 4, 0, 2] (s_DelD w ms c gs c2 hm hk) ⟨rfl, rfl, rfl⟩ ?_
  rintro _ _ ⟨rfl, ms', rfl, h1, h2, h3⟩
  refine VCall.mk [2, 4] (s_DelG w gs c2 hm2 hk2) ⟨rfl, rfl, rfl⟩ ?_
  rintro _ _ ⟨rfl, gs', rfl, h4, h5, h6⟩
  exact VRet.mk [0, 1, 2] (.tup []) (SO2 ms' c gs' c2) ⟨rfl, rfl, rfl⟩ ⟨rfl, ms', gs', rfl, h1, h2, h3, h4, h5, h6⟩
end Go.Proofs

namespace Go.Proofs
open Go Go.V Go.Lib
set_option maxRecDepth 100000
set_option linter.unusedVariables false

/-! ### What all have seen is forgotten: a state -/
def DropA (w : Nat → Int) : AV → AV → Prop
  | .set ms c gs c2, .set ms' c' gs' c2' => c' = c ∧ c2' = c2 ∧ (∀ y, y ∈ ms' ↔ y ∈ ms ∧ delD gs w y = false) ∧ ∀ y, y ∈ gs' ↔ y ∈ gs ∧ delG w y = false
  | .num u d, .num u' d' => u' = u ∧ d' = d
  | .txt l, .txt l' => l' = l
  | _, _ => False
theorem DropA.kind {w : Nat → Int} {a a' : AV} (h : DropA w a a') : a'.kind = a.kind := by
  cases a <;> cases a' <;> first | rfl | cases h
theorem s_DropH (hs : Nat → Option Obj) (fp : List Nat) (v : Value) (ms : MS) (c : Nat) (gs : GM) (c2 N : Nat) (hI : SI ms c gs c2 N) (hv : ValAt hs fp v (.set ms c gs c2)) (b : Nat) (hb : fp[0]? = some b) (w : Nat → Int) :
    Ctr Tryz.prog F_orset_Set_Drop [.raw (.pointer (some ⟨b, 0, none⟩)), .agg (vcells w)] [.heap hs] (fun x H => x = .tup [] ∧ ∃ hs' a', H = [.heap hs'] ∧ ValAt hs' fp v a' ∧ a'.ok N ∧ DropA w (.set ms c gs c2) a' ∧ ∀ b, b ∉ fp → hs' b = hs b) := by
  obtain ⟨b', h0, rfl⟩ := hv.at'
  obtain rfl : b' = b := by rw [h0] at hb; exact Option.some.inj hb
  refine ctr_open (G := []) (as' := [.ptr 0 0, .agg (vcells w)]) (Ho := (AV.set ms c gs c2).blk) (Post := fun x H => x = .tup [] ∧ ∃ ms' gs', H = SO2 ms' c gs' c2 ∧ MOK ms' c ∧ (ms'.map (·.1)).Nodup ∧ (∀ y, y ∈ ms' ↔ y ∈ ms ∧ delD gs w y = false) ∧ MOK gs' c2 ∧ (gs'.map (·.1)).Nodup ∧ ∀ y, y ∈ gs' ↔ y ∈ gs ∧ delG w y = false)
    (by rw [List.append_nil]; exact s_SDrop w ms c gs c2 hI.m hI.km hI.g hI.gk) fp hs hv.len hv.nd (AV.cm _) (AV.okb _) (by simp) hv.obj ?_ ?_ ?_
  · intro ρ ρ' h1 _
    have : ρ 0 = some b' := by rw [h1 0 (by simp [AV.blk]), h0]
    simp [V.val, valL, this]
  · intro _; rfl
  · rintro v0 H0 ⟨rfl, ms', gs', rfl, h1, h2, h3, h4, h5, h6⟩
    have hok : (AV.set ms' c gs' c2).ok N := by
      refine ⟨h1, h2, ?_, fun e he => hI.me e ((h3 e).1 he).1, h4, h5, ?_⟩
      · exact Nat.le_trans (by classical exact nodup_len (nodup_of_map _ h2) fun y hy => ((h3 y).1 hy).1) hI.ml
      · exact Nat.le_trans (by classical exact nodup_len (nodup_of_map _ h5) fun y hy => ((h6 y).1 hy).1) hI.gl
    refine ⟨(AV.set ms' c gs' c2).blk, [], .tup [], by rw [List.append_nil]; rfl, rfl, AV.cm _, AV.okb (.set ms' c gs' c2), by simp, fun _ _ _ _ => rfl, fun _ => rfl, rfl, _, .set ms' c gs' c2, rfl, ⟨hv.len, hv.nd, ⟨b', h0, rfl⟩, ?_⟩, hok, ⟨rfl, rfl, h3, h6⟩, ?_⟩
    · intro k b o hb ho
      exact updA_in _ fp _ hs hv.nd k b o hb ho
    · intro b' hb'
      exact updA_out _ fp _ hs b' hb'
theorem s_AsSetH_no (hs : Nat → Option Obj) (fp : List Nat) (v : Value) (a : AV) (hk : a.kind ≠ 1) (hv : ValAt hs fp v a) : Ctr Tryz.prog F_value_AsSet [.raw v] [.heap hs] (fun x H => x = .tup [nilP, bv false] ∧ H = [.heap hs]) := by
  have hc : Ctr Tryz.prog F_value_AsSet [a.sym] a.blk (fun x H => x = .tup [nilP, bv false] ∧ H = a.blk) := by
    cases a with
    | set ms c gs c2 => exact absurd rfl hk
    | num u d => exact s_AsSet_N u d
    | txt l => exact s_AsSet_T l
  obtain ⟨b, h0, rfl⟩ := hv.at'
  refine ctr_open (G := []) (as' := [a.sym]) (Ho := a.blk) (Post := fun x H => x = .tup [nilP, bv false] ∧ H = a.blk) (by rw [List.append_nil]; exact hc) fp hs hv.len hv.nd (AV.cm _) (AV.okb _) (by simp) hv.obj ?_ ?_ ?_
  · intro ρ ρ' h1 _
    simp only [valL]
    rw [a.val_sym h0 ρ h1]
    simp [V.val]
  · intro _
    simp only [belowL, Bool.and_eq_true]
    exact ⟨a.bel_sym _ (by simp), trivial⟩
  · rintro v0 H0 ⟨rfl, rfl⟩
    refine ⟨a.blk, [], .tup [nilP, bv false], by rw [List.append_nil], rfl, AV.cm _, AV.okb _, by simp, ?_, fun _ => rfl, rfl, by rw [updA_same _ _ _ _ hv.obj]⟩
    intro ρ ρ' h1 _
    simp [V.val, valL]
/-- The same map, other values. -/
def repA (F : PK → AV) (ms : MPV) : MPV := ms.map fun e => (e.1, (⟨F e.1, e.2.1.fp, e.2.1.v⟩ : VV), e.2.2)
theorem repA_ents (F : PK → AV) (ms : MPV) : ents encP encVV (repA F ms) = ents encP encVV ms := by
  unfold repA ents
  rw [List.map_map]; rfl
theorem repA_get (F : PK → AV) (p : PK) {ms : MPV} (hk : (ms.map (·.1)).Nodup) : MP.get (repA F ms) p = (MP.get ms p).map fun x => ⟨F p, x.fp, x.v⟩ := by
  have hk' : ((repA F ms).map (·.1)).Nodup := by unfold repA; rw [List.map_map]; exact hk
  cases hx : MP.get ms p with
  | some x =>
    obtain ⟨e, he, h1, h2⟩ := mem_of_get hx
    have := get_of_mem hk' (List.mem_map.2 ⟨e, he, rfl⟩)
    simp only [h1, h2] at this
    exact this
  | none =>
    cases hy : MP.get (repA F ms) p with
    | none => rfl
    | some y =>
      obtain ⟨e, he, h1, h2⟩ := mem_of_get hy
      obtain ⟨e', he', h3⟩ := List.mem_map.1 he
      have := get_of_mem hk he'
      have h4 : e'.1 = p := by rw [← h1, ← h3]
      rw [h4, hx] at this; cases this
theorem AV.svc (a : AV) (b : Nat) : svConst (a.raw b) = .raw (a.raw b) := by cases a <;> rfl
structure DSX where
  hs : Nat → Option Obj
  F : PK → AV
  seen : List Nat
  pre : MPV
theorem s_StDrop (hs : Nat → Option Obj) (v : Nat → Int) (ms : MPV) (c N : Nat) (hI : StI hs v ms c N) (w : Nat → Int) :
    Ctr Tryz.prog F_state_State_Drop [.ptr 0 0, .agg (vcells w)] (SST v ms c ++ [.heap hs]) (fun x H => x = .tup [] ∧ ∃ hs' ms', H = SST v ms' c ++ [.heap hs'] ∧ StI hs' v ms' c N ∧ ∀ p, (lk ms p = none ∧ lk ms' p = none) ∨ ∃ a a', lk ms p = some a ∧ lk ms' p = some a' ∧ DropA w a a') := by
  refine i_state_State_Drop.spec follows ?_
  refine VLoop.mk DSX (fun y => [(3, .ptr 3 0), (12, .ptr 4 0)]) (fun y => SST v ms c ++ [.heap y.hs, .cells (vcells w) T_vec_Vec, .iter (some 1) c y.seen c])
    (fun y => Been ms y.pre y.seen ∧ (∀ e, e ∈ ms → (y.F e.1).kind = e.1.1 ∧ (y.F e.1).ok N ∧ ValAt y.hs e.2.1.fp e.2.1.v (y.F e.1)) ∧ (∀ e, e ∈ ms → e ∈ y.pre → DropA w e.2.1.a (y.F e.1)) ∧ (∀ e, e ∈ ms → e ∉ y.pre → y.F e.1 = e.2.1.a)) (fun y => ms.length - y.pre.length)
    ⟨hs, fun p => (lk ms p).getD (newAV 1), [], []⟩ [0, 1, 2, 3, 4] ⟨⟨Been.nil _, ?_, by simp, ?_⟩, rfl, rfl, rfl⟩ ?_
  · intro e he
    have hg := get_of_mem hI.km he
    have e1 : (lk ms e.1).getD (newAV 1) = e.2.1.a := by
      show ((MP.get ms e.1).map (fun x : VV => x.a)).getD _ = _
      rw [hg]; rfl
    simp only [e1]
    exact ⟨(hI.kind e he).1, hI.ok e he, hI.at' e he⟩
  · intro e he _
    have hg := get_of_mem hI.km he
    show ((MP.get ms e.1).map (fun x : VV => x.a)).getD _ = _
    rw [hg]; rfl
  rintro ⟨hs1, F, seen, pre⟩ ⟨h1, h2, h3, h4⟩ g
  simp only at h1 h2 h3 h4
  refine And.intro ⟨fun e he => ?_, Nat.le_refl _⟩ (And.intro (fun hall => ?_) (fun e he hns => ?_))
  · obtain ⟨y, hy, rfl⟩ := List.mem_map.1 he
    exact hI.m.1 y hy
  · have hsub : ∀ y, y ∈ ms → y ∈ pre := fun y hy => h1.all hI.m.2 hy (hall _ (List.mem_map.2 ⟨y, hy, rfl⟩))
    have hen := repA_ents F ms
    refine VRet.mk [0, 1, 2] (.tup []) (SST v ms c ++ [.heap hs1]) ⟨rfl, rfl, rfl⟩ ⟨rfl, hs1, repA F ms, by show [SO.cells _ _, SO.map _ _, SO.heap _] = [SO.cells _ _, SO.map (ents encP encVV (repA F ms)) c, SO.heap _]; rw [hen], ?_, fun p => ?_⟩
    · have hmem : ∀ e, e ∈ repA F ms → ∃ e', e' ∈ ms ∧ e = (e'.1, (⟨F e'.1, e'.2.1.fp, e'.2.1.v⟩ : VV), e'.2.2) := fun e he => by
        obtain ⟨e', q1, q2⟩ := List.mem_map.1 he
        exact ⟨e', q1, q2.symm⟩
      refine ⟨hI.v, ?_, ?_, ?_, ?_, ?_, ?_, ?_, ?_⟩
      · refine ⟨fun x hx => ?_, ?_⟩
        · obtain ⟨e', q1, rfl⟩ := hmem x hx; exact hI.m.1 e' q1
        · have := hI.m.2
          unfold repA; rw [List.map_map]; exact this
      · have := hI.km
        unfold repA; rw [List.map_map]; exact this
      · unfold repA; rw [List.length_map]; exact hI.ml
      · intro e he; obtain ⟨e', q1, rfl⟩ := hmem e he; exact hI.key e' q1
      · intro e he; obtain ⟨e', q1, rfl⟩ := hmem e he; exact ⟨(h2 e' q1).1, (hI.kind e' q1).2⟩
      · intro e he; obtain ⟨e', q1, rfl⟩ := hmem e he; exact (h2 e' q1).2.1
      · intro e he; obtain ⟨e', q1, rfl⟩ := hmem e he; exact (h2 e' q1).2.2
      · intro e e' he he' hne
        obtain ⟨e1, q1, rfl⟩ := hmem e he
        obtain ⟨e2, q2, rfl⟩ := hmem e' he'
        exact hI.dis e1 e2 q1 q2 hne
    · have hg := repA_get F p hI.km
      cases hx : MP.get ms p with
      | none =>
        rw [hx] at hg
        refine .inl ⟨?_, ?_⟩
        · show (MP.get ms p).map (fun x : VV => x.a) = none
          rw [hx]; rfl
        · show (MP.get (repA F ms) p).map (fun x : VV => x.a) = none
          rw [hg]; rfl
      | some x =>
        rw [hx] at hg
        obtain ⟨e, he, q1, q2⟩ := mem_of_get hx
        refine .inr ⟨x.a, F p, ?_, ?_, ?_⟩
        · show (MP.get ms p).map (fun x : VV => x.a) = _
          rw [hx]; rfl
        · show (MP.get (repA F ms) p).map (fun x : VV => x.a) = _
          rw [hg]; rfl
        · have := h3 e he (hsub e he)
          rw [q1, q2] at this; exact this
  · obtain ⟨y, hy, rfl⟩ := List.mem_map.1 he
    have hns : y.2.2 ∉ seen := hns
    have hlen : ms.length - (pre ++ [y]).length < ms.length - pre.length := by classical exact h1.len hy hns
    have hmore := h1.more hy hns
    have hyp : y ∉ pre := fun k => hns (by rw [h1.eq]; exact List.mem_map.2 ⟨y, k, rfl⟩)
    have hFy := h4 y hy hyp
    obtain ⟨q1, q2, q3⟩ := h2 y hy
    rw [hFy] at q1 q2 q3
    -- what the next turn knows
    have next : ∀ (hs2 : Nat → Option Obj) (a' : AV), ValAt hs2 y.2.1.fp y.2.1.v a' → a'.ok N → DropA w y.2.1.a a' → (∀ b, b ∉ y.2.1.fp → hs2 b = hs1 b) →
        Been ms (pre ++ [y]) (seen ++ [y.2.2]) ∧ (∀ e, e ∈ ms → ((fun p => if p = y.1 then a' else F p) e.1).kind = e.1.1 ∧ ((fun p => if p = y.1 then a' else F p) e.1).ok N ∧ ValAt hs2 e.2.1.fp e.2.1.v ((fun p => if p = y.1 then a' else F p) e.1)) ∧ (∀ e, e ∈ ms → e ∈ pre ++ [y] → DropA w e.2.1.a ((fun p => if p = y.1 then a' else F p) e.1)) ∧ (∀ e, e ∈ ms → e ∉ pre ++ [y] → (fun p => if p = y.1 then a' else F p) e.1 = e.2.1.a) := by
      intro hs2 a' r1 r2 r3 r4
      refine ⟨hmore, fun e he => ?_, fun e he hp => ?_, fun e he hp => ?_⟩
      · by_cases k : e.1 = y.1
        · have := key_inj hI.km he hy k
          subst this
          simp only [if_true]
          exact ⟨by rw [r3.kind]; exact q1, r2, r1⟩
        · simp only [if_neg k]
          obtain ⟨t1, t2, t3⟩ := h2 e he
          exact ⟨t1, t2, t3.keep fun b hb => r4 b (hI.dis e y he hy k b hb)⟩
      · by_cases k : e.1 = y.1
        · have := key_inj hI.km he hy k
          subst this
          simp only [if_true]; exact r3
        · simp only [if_neg k]
          rcases List.mem_append.1 hp with hp | hp
          · exact h3 e he hp
          · simp at hp; subst hp; exact absurd rfl k
      · have k : e.1 ≠ y.1 := fun k => by
          have := key_inj hI.km he hy k
          subst this
          exact hp (by simp)
        simp only [if_neg k]
        exact h4 e he fun k => hp (by simp [k])
    refine Exists.intro y.2.2 (Exists.intro (ent encP encVV y) (And.intro (last_snoc _ _) (And.intro (find_ents hI.m.2 hy) (And.intro rfl ?_))))
    have hsv : svConst y.2.1.v = .raw y.2.1.v := by
      obtain ⟨b, _, e⟩ := q3.at'
      rw [e]; exact AV.svc _ b
    by_cases hk : y.2.1.a.kind = 1
    · obtain ⟨m, mc, gs, c2, ha⟩ : ∃ m mc gs c2, y.2.1.a = .set m mc gs c2 := by
        cases ha : y.2.1.a with
        | set m mc gs c2 => exact ⟨m, mc, gs, c2, rfl⟩
        | num u d => rw [ha] at hk; cases hk
        | txt l => rw [ha] at hk; cases hk
      rw [ha] at q2 q3 next
      refine VCall.mk [2] (s_AsSetH hs1 y.2.1.fp y.2.1.v m mc gs c2 q3) ⟨congrArg (fun z => [z]) hsv, rfl, rfl⟩ ?_
      rintro _ _ ⟨b, hb, rfl, rfl⟩
      refine And.intro (fun _ => ?_) (fun k => absurd k (by decide))
      refine VCall.mk [2] (s_DropH hs1 y.2.1.fp y.2.1.v m mc gs c2 N q2 q3 b hb w) ⟨rfl, rfl, rfl⟩ ?_
      rintro _ _ ⟨rfl, hs2, a', rfl, r1, r2, r3, r4⟩
      exact Exists.intro ⟨hs2, fun p => if p = y.1 then a' else F p, seen ++ [y.2.2], pre ++ [y]⟩ (Exists.intro [0, 1, 2, 3, 4] (And.intro ⟨next hs2 a' r1 r2 r3 r4, hlen⟩ ⟨rfl, rfl, rfl⟩))
    · refine VCall.mk [2] (s_AsSetH_no hs1 y.2.1.fp y.2.1.v y.2.1.a hk q3) ⟨congrArg (fun z => [z]) hsv, rfl, rfl⟩ ?_
      rintro _ _ ⟨rfl, rfl⟩
      refine And.intro (fun k => absurd k (by decide)) (fun _ => ?_)
      have hd : DropA w y.2.1.a y.2.1.a := by
        cases ha : y.2.1.a with
        | set m mc gs c2 => rw [ha] at hk; exact absurd rfl hk
        | num u d => exact ⟨rfl, rfl⟩
        | txt l => exact rfl
      exact Exists.intro ⟨hs1, fun p => if p = y.1 then y.2.1.a else F p, seen ++ [y.2.2], pre ++ [y]⟩ (Exists.intro [0, 1, 2, 3, 4] (And.intro ⟨next hs1 y.2.1.a q3 q2 hd (fun _ _ => rfl), hlen⟩ ⟨rfl, rfl, rfl⟩))
end Go.Proofs

namespace Go.Proofs
open Go Go.V Go.Lib
set_option maxRecDepth 100000
set_option linter.unusedVariables false

/-! ### What was forgotten shows nowhere -/
theorem has_zero {u : Nat → Int} (h : ∀ r, r < 7 → u r = 0) (r n : Int) : has u r n = false := by
  cases hh : has u r n with
  | false => rfl
  | true =>
    unfold has at hh
    simp only [Bool.and_eq_true, decide_eq_true_eq] at hh
    have := isRep_iff.1 hh.1
    have := h r.toNat (by omega)
    omega
def DR (w : Nat → Int) : AV → AV → Prop
  | .set ms _ gs _, .set ms' _ gs' _ =>
    (∀ d, MP.get ms' d = MP.get ms d ∨ (MP.get ms' d = none ∧ ∃ x, MP.get ms d = some x ∧ has (goneAt gs x) d.1 d.2 = true)) ∧
    (∀ x, (∀ r, r < 7 → goneAt gs x r = goneAt gs' x r) ∨ ((∀ r, r < 7 → goneAt gs' x r = 0) ∧ ∀ r, r < 7 → goneAt gs x r ≤ w r)) ∧
    ∀ d x, MP.get ms' d = some x → has (goneAt gs x) d.1 d.2 = has (goneAt gs' x) d.1 d.2
  | .num u d, .num u' d' => u' = u ∧ d' = d
  | .txt l, .txt l' => l' = l
  | _, _ => False
theorem DR.refl (w : Nat → Int) (a : AV) : DR w a a := by
  cases a with
  | set ms c gs c2 => exact ⟨fun d => .inl rfl, fun x => .inl fun _ _ => rfl, fun _ _ _ => rfl⟩
  | num u d => exact ⟨rfl, rfl⟩
  | txt l => exact rfl
theorem get_iff {K V : Type} [DecidableEq K] {ms : List (K × V × Nat)} (hk : (ms.map (·.1)).Nodup) {p : K} {x : V} : MP.get ms p = some x ↔ ∃ e, e ∈ ms ∧ e.1 = p ∧ e.2.1 = x :=
  ⟨mem_of_get, fun ⟨e, he, h1, h2⟩ => by rw [← h1, ← h2]; exact get_of_mem hk he⟩
theorem DR.drop {w : Nat → Int} {a a' : AV} {N N' : Nat} (ho : a.ok N) (ho' : a'.ok N') (h : DropA w a a') : DR w a a' := by
  cases a with
  | set ms c gs c2 =>
    cases a' with
    | set ms' c' gs' c2' =>
      obtain ⟨_, _, h1, h2⟩ := h
      have hg : ∀ x, goneAt gs' x = goneAt gs x ∨ (goneAt gs' x = vz ∧ ∀ r, r < 7 → goneAt gs x r ≤ w r) := by
        intro x
        unfold goneAt
        cases hx : MP.get gs x with
        | none =>
          left
          have : MP.get gs' x = none := by
            cases hy : MP.get gs' x with
            | none => rfl
            | some y =>
              obtain ⟨e, he, q1, q2⟩ := mem_of_get hy
              have := (get_iff ho.gk).2 ⟨e, ((h2 e).1 he).1, q1, q2⟩
              rw [hx] at this; cases this
          rw [this]
        | some y =>
          obtain ⟨e, he, q1, q2⟩ := mem_of_get hx
          cases hd : delG w e with
          | false =>
            left
            rw [(get_iff ho'.gk).2 ⟨e, (h2 e).2 ⟨he, hd⟩, q1, q2⟩]
          | true =>
            right
            have hle : ∀ r, r < 7 → y r ≤ w r := by rw [← q2]; exact leB_iff.1 hd
            refine ⟨?_, hle⟩
            cases hy : MP.get gs' x with
            | none => rfl
            | some z =>
              obtain ⟨e', he', q1', q2'⟩ := mem_of_get hy
              have he2 := (h2 e').1 he'
              have := key_inj ho.gk he2.1 he (q1'.trans q1.symm)
              rw [this, hd] at he2; cases he2.2
      refine ⟨fun d => ?_, fun x => ?_, fun d x hd => ?_⟩
      · cases hx : MP.get ms' d with
        | some x =>
          obtain ⟨e, he, q1, q2⟩ := mem_of_get hx
          exact .inl ((get_iff ho.km).2 ⟨e, ((h1 e).1 he).1, q1, q2⟩).symm
        | none =>
          cases hy : MP.get ms d with
          | none => exact .inl rfl
          | some x =>
            refine .inr ⟨rfl, x, rfl, ?_⟩
            obtain ⟨e, he, q1, q2⟩ := mem_of_get hy
            cases hd : delD gs w e with
            | false =>
              have := (get_iff ho'.km).2 ⟨e, (h1 e).2 ⟨he, hd⟩, q1, q2⟩
              rw [hx] at this; cases this
            | true =>
              unfold delD at hd
              rw [q1, q2] at hd
              exact (Bool.and_eq_true _ _ ▸ hd : _ ∧ _).1
      · rcases hg x with q | ⟨q1, q2⟩
        · exact .inl fun r _ => by rw [q]
        · exact .inr ⟨fun r _ => by rw [q1]; rfl, q2⟩
      · rcases hg x with q | ⟨q1, q2⟩
        · rw [q]
        · rw [q1, has_zero (u := vz) (fun r _ => rfl)]
          obtain ⟨e, he, t1, t2⟩ := mem_of_get hd
          have hdel := ((h1 e).1 he).2
          unfold delD at hdel
          rw [t1, t2] at hdel
          cases hh : has (goneAt gs x) d.1 d.2 with
          | false => rfl
          | true => rw [hh, has_mono q2 hh] at hdel; cases hdel
    | num u d => exact h.elim
    | txt l => exact h.elim
  | num u d => cases a' <;> exact h
  | txt l => cases a' <;> exact h
theorem goneAt_put {gs : GM} {x : ByteArray} {v : Nat → Int} {c : Nat} (y : ByteArray) : goneAt (MP.put gs x v c) y = if y = x then v else goneAt gs y := by
  unfold goneAt; rw [get_put]; split <;> rfl
theorem DR.put {w v : Nat → Int} {a b : AV} (h : DR w a b) (s : SH) (hwv : ∀ r, r < 7 → w r ≤ v r) (hws : ∀ r, r < 7 → w r ≤ s.seen r) (hn : has v s.rep s.n = false) (hs : seenA v a) : (putAV b s).1 = (putAV a s).1 ∧ DR w (putAV a s).2 (putAV b s).2 := by
  cases a with
  | set ms c gs c2 =>
    cases b with
    | set ms' c' gs' c2' =>
      obtain ⟨h1, h2, h3⟩ := h
      simp only [putAV]
      split
      · -- one more entry
        have hno : MP.get ms (s.rep, s.n) = none := by
          cases hx : MP.get ms (s.rep, s.n) with
          | none => rfl
          | some x =>
            obtain ⟨e, he, q1, q2⟩ := mem_of_get hx
            have := hs e he
            rw [q1] at this
            rw [hn] at this; cases this
        have hno' : MP.get ms' (s.rep, s.n) = none := by
          rcases h1 (s.rep, s.n) with q | ⟨q, _⟩
          · rw [q, hno]
          · exact q
        have hE : addE ms' s.rep s.n s.text = addE ms s.rep s.n s.text := by unfold addE; rw [hno, hno']
        refine ⟨hE, ?_⟩
        unfold addM
        rw [hE]
        split
        · refine ⟨fun d => ?_, h2, fun d x hd => ?_⟩
          · rw [get_put, get_put]
            by_cases k : d = (s.rep, s.n)
            · rw [if_pos k, if_pos k]; exact .inl rfl
            · rw [if_neg k, if_neg k]; exact h1 d
          · rw [get_put] at hd
            by_cases k : d = (s.rep, s.n)
            · subst k
              rcases h2 x with q | ⟨q1, q2⟩
              · exact has_congr q _ _
              · rw [has_zero q1]
                cases hh : has (goneAt gs x) s.rep s.n with
                | false => rfl
                | true =>
                  have := has_mono (fun r hr => Int.le_trans (q2 r hr) (hwv r hr)) hh
                  rw [hn] at this; cases this
            · rw [if_neg k] at hd; exact h3 d x hd
        · exact ⟨h1, h2, h3⟩
      · refine ⟨rfl, ?_⟩
        unfold remG
        split
        · rename_i hr
          have hv0 : ∀ r, r < 7 → 0 ≤ s.seen r := by
            unfold remE at hr
            split at hr
            · cases hr
            · rename_i hq
              have : vgoodB s.seen = true := by
                cases q : vgoodB s.seen with
                | true => rfl
                | false => exact absurd (.inr q) hq
              exact fun r hr => (vgoodB_iff.1 this r hr).1
          have hsame : ∀ r, r < 7 → vmax (goneAt gs s.text) s.seen r = vmax (goneAt gs' s.text) s.seen r := by
            intro r hr
            unfold vmax
            rcases h2 s.text with q | ⟨q1, q2⟩
            · rw [q r hr]
            · rw [q1 r hr]
              have t1 := q2 r hr
              have t2 := hws r hr
              have t3 := hv0 r hr
              split <;> split <;> omega
          refine ⟨fun d => ?_, fun x => ?_, fun d x hd => ?_⟩
          · rcases h1 d with q | ⟨q, x, q1, q2⟩
            · exact .inl q
            · refine .inr ⟨q, x, q1, ?_⟩
              rw [goneAt_put]
              split
              · rename_i hx
                subst hx
                refine has_mono (fun r _ => ?_) q2
                unfold vmax; split <;> omega
              · exact q2
          · rw [goneAt_put, goneAt_put]
            split
            · exact .inl hsame
            · exact h2 x
          · rw [goneAt_put, goneAt_put]
            split
            · exact has_congr hsame _ _
            · exact h3 d x hd
        · exact ⟨h1, h2, h3⟩
    | num u d => exact h.elim
    | txt l => exact h.elim
  | num u d =>
    cases b with
    | set ms' c' gs' c2' => exact h.elim
    | num u' d' => obtain ⟨rfl, rfl⟩ := h; exact ⟨rfl, rfl, rfl⟩
    | txt l => exact h.elim
  | txt l =>
    cases b with
    | set ms' c' gs' c2' => exact h.elim
    | num u' d' => exact h.elim
    | txt l' => obtain rfl := (show l' = l from h); exact ⟨rfl, rfl⟩
theorem DR.live {w : Nat → Int} {ms ms' : MS} {c c' : Nat} {gs gs' : GM} {c2 c2' : Nat} (h : DR w (.set ms c gs c2) (.set ms' c' gs' c2')) (d : Int × Int) (x : ByteArray) :
    (MP.get ms d = some x ∧ has (goneAt gs x) d.1 d.2 = false) ↔ (MP.get ms' d = some x ∧ has (goneAt gs' x) d.1 d.2 = false) := by
  obtain ⟨h1, h2, h3⟩ := h
  constructor
  · rintro ⟨q1, q2⟩
    rcases h1 d with q | ⟨_, y, q3, q4⟩
    · rw [q1] at q
      exact ⟨q, by rw [← h3 d x q]; exact q2⟩
    · rw [q1] at q3; cases q3; rw [q2] at q4; cases q4
  · rintro ⟨q1, q2⟩
    rcases h1 d with q | ⟨q, _⟩
    · exact ⟨by rw [← q]; exact q1, by rw [h3 d x q1]; exact q2⟩
    · rw [q1] at q; cases q
theorem DR.bytes {w : Nat → Int} {a a' : AV} {N N' : Nat} (h : DR w a a') (ho : a.ok N) (ho' : a'.ok N') : a.bytes = a'.bytes := by
  cases a with
  | set ms c gs c2 =>
    cases a' with
    | set ms' c' gs' c2' =>
      show setB ms gs = setB ms' gs'
      have hl := h.live
      have hmem : ∀ {ms : MS} {gs : GM} (hk : (ms.map (·.1)).Nodup) (p : (Int × Int) × ByteArray), p ∈ (ms.filter (liveB gs)).map (fun e => (e.1, e.2.1)) ↔ (MP.get ms p.1 = some p.2 ∧ has (goneAt gs p.2) p.1.1 p.1.2 = false) := by
        intro ms gs hk p
        rw [get_iff hk]
        constructor
        · intro hp
          obtain ⟨e, he, rfl⟩ := List.mem_map.1 hp
          have := List.mem_filter.1 he
          have q : liveB gs e = true := this.2
          unfold liveB at q
          exact ⟨⟨e, this.1, rfl, rfl⟩, by simpa using q⟩
        · rintro ⟨⟨e, he, q1, q2⟩, q3⟩
          refine List.mem_map.2 ⟨e, List.mem_filter.2 ⟨he, ?_⟩, by rw [q1, q2]⟩
          unfold liveB; rw [q1, q2, q3]; rfl
      have hnd : ∀ {ms : MS} {gs : GM} (hk : (ms.map (·.1)).Nodup), ((ms.filter (liveB gs)).map (fun e => (e.1, e.2.1))).Nodup := by
        intro ms gs hk
        have h1 : ((ms.filter (liveB gs)).map (·.1)).Nodup := hk.sublist (List.filter_sublist.map _)
        refine nodup_of_map (·.1) ?_
        rw [List.map_map]; exact h1
      have hp : ((ms.filter (liveB gs)).map (fun e => (e.1, e.2.1))).Perm ((ms'.filter (liveB gs')).map (fun e => (e.1, e.2.1))) :=
        (List.perm_ext_iff_of_nodup (hnd ho.km) (hnd ho'.km)).2 fun p => by rw [hmem ho.km, hmem ho'.km]; exact hl p.1 p.2
      have hA : allT ms gs = allT ms' gs' := by
        unfold allT
        congr 1
        apply sortX_eq
        have := hp.map fun p => p.2.data.toList
        rw [List.map_map, List.map_map] at this
        exact this
      have hT : ∀ x, dotsT ms gs x = dotsT ms' gs' x := by
        intro x
        refine srt_ext (srt_sortD (dotsT_nd ho.km gs x)) (srt_sortD (dotsT_nd ho'.km gs' x)) fun d => ?_
        unfold dotsT; rw [mem_sortD, mem_sortD]
        have key : ∀ {ms : MS} {gs : GM} (hk : (ms.map (·.1)).Nodup), d ∈ (ms.filter (dotE gs x)).map (·.1) ↔ (MP.get ms d = some x ∧ has (goneAt gs x) d.1 d.2 = false) := by
          intro ms gs hk
          rw [get_iff hk]
          constructor
          · intro hd
            obtain ⟨e, he, rfl⟩ := List.mem_map.1 hd
            have := List.mem_filter.1 he
            have q := this.2
            unfold dotE liveB at q
            simp only [Bool.and_eq_true, decide_eq_true_eq, Bool.not_eq_true'] at q
            exact ⟨⟨e, this.1, rfl, q.1.symm⟩, by rw [q.1]; exact q.2⟩
          · rintro ⟨⟨e, he, q1, q2⟩, q3⟩
            refine List.mem_map.2 ⟨e, List.mem_filter.2 ⟨he, ?_⟩, q1⟩
            unfold dotE liveB
            rw [q1, q2, q3]; simp
        rw [key ho.km, key ho'.km]
        exact hl d x
      unfold setB
      rw [hA]
      congr 1
      have : oneB ms gs = oneB ms' gs' := by
        funext t
        unfold oneB
        rw [hT]
      rw [this]
    | num u d => exact h.elim
    | txt l => exact h.elim
  | num u d =>
    cases a' with
    | set ms' c' gs' c2' => exact h.elim
    | num u' d' => obtain ⟨rfl, rfl⟩ := h; rfl
    | txt l => exact h.elim
  | txt l =>
    cases a' with
    | set ms' c' gs' c2' => exact h.elim
    | num u d => exact h.elim
    | txt l' => obtain rfl := (show l' = l from h); rfl
/-! ### Two states -/
def DRF (w : Nat → Int) (f g : PK → Option AV) : Prop := ∀ p, (f p = none ∧ g p = none) ∨ ∃ a b, f p = some a ∧ g p = some b ∧ DR w a b
theorem DRF.old {w : Nat → Int} {f g : PK → Option AV} (h : DRF w f g) (s : SH) : DR w (oldA f s) (oldA g s) := by
  unfold oldA
  rcases h (atS s) with ⟨h1, h2⟩ | ⟨a, b, h1, h2, h3⟩
  · rw [h1, h2]; exact DR.refl _ _
  · rw [h1, h2]; exact h3
theorem DRF.app {w v : Nat → Int} {f g : PK → Option AV} (h : DRF w f g) (hS : SeenF v f) (s : SH) (hwv : ∀ r, r < 7 → w r ≤ v r) (hws : ∀ r, r < 7 → w r ≤ s.seen r) :
    appE v g s = appE v f s ∧ DRF w (appF v f s) (appF v g s) := by
  have hold := h.old s
  obtain ⟨o1, o2⟩ := hS.old s
  have hE : appE v g s = appE v f s := by
    unfold appE
    split
    · rfl
    · split
      · rfl
      · rename_i hn
        split
        · rfl
        · exact (hold.put s hwv hws (by simpa using hn) o1).1
  refine ⟨hE, fun p => ?_⟩
  unfold appF
  rw [hE]
  by_cases k : appE v f s = 0 ∧ p = atS s
  · rw [if_pos k, if_pos k]
    refine .inr ⟨_, _, rfl, rfl, ?_⟩
    exact (hold.put s hwv hws (appE_ok k.1).2.1 o1).2
  · rw [if_neg k, if_neg k]; exact h p
theorem DRF.bytes {w v : Nat → Int} {ms ms' : MPV} {hs hs' : Nat → Option Obj} {c c' N N' : Nat} (hI : StI hs v ms c N) (hI' : StI hs' v ms' c' N') (h : DRF w (lk ms) (lk ms')) : stB v ms = stB v ms' := by
  refine stB_same (fun _ _ => rfl) hI.km hI'.km fun p => ?_
  have ok : ∀ {hs : Nat → Option Obj} {v : Nat → Int} {ms : MPV} {c N : Nat} (hI : StI hs v ms c N) {a : AV}, lk ms p = some a → a.ok N := by
    intro hs v ms c N hI a q
    obtain ⟨x, q4, q5⟩ := Option.map_eq_some_iff.1 (show (MP.get ms p).map (fun x : VV => x.a) = some a from q)
    subst q5
    exact (hI.get q4).2.1
  rcases h p with ⟨q1, q2⟩ | ⟨a, b, q1, q2, q3⟩
  · rw [q1, q2]
  · rw [q1, q2]
    exact congrArg some (q3.bytes (ok hI q1) (ok hI' q2))
end Go.Proofs

