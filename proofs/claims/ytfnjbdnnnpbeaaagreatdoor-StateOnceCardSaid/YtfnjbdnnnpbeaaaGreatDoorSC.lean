/- Part of the proof that the statement named in the last file holds: lemmas of the prover's own. No conditions. -/
import Derived.Test.YtfnjbdnnnpbeaaaGreatDoorSB
namespace Go.Proofs
open Go Go.V Go.Lib
set_option maxRecDepth 100000
set_option linter.unusedVariables false

/-! ### The last block forgotten -/
theorem St.front {ρ : Rho} {H : List SO} {o : SO} {g : Fr} {w : World} (h : St ρ (H ++ [o]) g w) (hp : ∀ x, x ∈ H → plainO x = true) : St ρ H g w := by
  have up : ∀ (k : Nat) x, H[k]? = some x → (H ++ [o])[k]? = some x := fun k x hk => by
    rw [List.getElem?_append_left (List.getElem?_eq_some_iff.1 hk).1]; exact hk
  constructor
  · exact fun k so hk => h.ent k so (up k so hk)
  · exact fun i j si sj b hij hi hj => h.dis i j si sj b hij (up _ _ hi) (up _ _ hj)
  · exact fun i j si g' b hi ho hj => h.gho i j si g' b (up _ _ hi) ho (up _ _ hj)
  · exact h.env
  · exact h.frm
  · exact fun i si b hi => h.frd i si b (up _ _ hi)
  · intro k l e hk
    have := hp _ (List.mem_of_getElem? hk); cases this
  · intro k m s seen st hk
    have := hp _ (List.mem_of_getElem? hk); cases this
  · exact fun j g' b hj => h.hpf j g' b (up _ _ hj)
  · exact fun j i g' b si hj hn hi => h.hpo j i g' b si (up _ _ hj) hn (up _ _ hi)
  · exact fun j i g' b si hj hn hij hi => h.hpc j i g' b si (up _ _ hj) hn hij (up _ _ hi)
/-- With an empty heap of its own that is given up at the end. -/
theorem ctr_own {P : Program} {f : FuncId} {args : List SV} {h : Nat → Option Obj} {b : Bool} (hc : Ctr P f args [.heap h, .heap fun _ => none] (fun x H => x = bv b ∧ ∃ hs, H = [.heap h, .heap hs])) : Ctr P f args [.heap h] (fun x H => x = bv b ∧ H = [.heap h]) := by
  have h1 := ctr_heap0 (H := [.heap h]) hc
  intro ρ g w hS hb
  refine Calls.mono (h1 ρ g w hS hb) ?_
  rintro e w' ⟨ρ', v, H', rfl, hS', hρ, hl, hbl, rfl, hs, rfl⟩
  exact ⟨ρ', bv b, [.heap h], rfl, St.front (H := [.heap h]) hS' (by simp [plainO]), hρ, Nat.le_refl _, rfl, rfl, rfl⟩
/-! ### Shadows that came in -/
def sev (a b c d e f g : Int) : Nat → Int
  | 0 => a | 1 => b | 2 => c | 3 => d | 4 => e | 5 => f | 6 => g | _ => 0
abbrev shcl (s : SH) : List Value := [.int .i64 s.rep, .int .i64 s.n, .int .i64 (s.seen 0), .int .i64 (s.seen 1), .int .i64 (s.seen 2), .int .i64 (s.seen 3), .int .i64 (s.seen 4), .int .i64 (s.seen 5), .int .i64 (s.seen 6), .int .i64 s.kind, .string s.key, .string s.text, .int .i64 s.by', .int .i64 s.time]
def RowsIs {α : Type} (cl : α → List Value) (k : Nat) (h : Nat → Option Obj) (v : Value) (L : List α) : Prop := ((∃ a c, v = .slice a 0 c) ∧ L = []) ∨
  ∃ (b o c : Nat) (xs : List Value) (e : TypeId) (fr : Nat × Nat), v = .slice (some ⟨b, o, none⟩) L.length c ∧ h b = some (.cells xs.toArray e fr) ∧ ∀ i (hi : i < L.length), V.cut xs (o + i * k) k = some (cl L[i])
theorem RowsIs.shape {α : Type} {cl : α → List Value} {k : Nat} {h : Nat → Option Obj} {v : Value} {L : List α} (hv : RowsIs cl k h v L) : ∃ a c, v = .slice a L.length c := by
  rcases hv with ⟨⟨a, c, rfl⟩, rfl⟩ | ⟨b, o, c, xs, e, fr, rfl, _⟩
  · exact ⟨a, c, rfl⟩
  · exact ⟨_, c, rfl⟩
theorem RowsIs.at {α : Type} {cl : α → List Value} {k : Nat} {h : Nat → Option Obj} {a : Option Addr} {n c : Nat} {L : List α} (hv : RowsIs cl k h (.slice a n c) L) {i : Nat} (hi : i < L.length) :
    ∃ (b o : Nat) (xs : List Value) (e : TypeId) (fr : Nat × Nat), a = some ⟨b, o, none⟩ ∧ h b = some (.cells xs.toArray e fr) ∧ ∀ j (hj : j < L.length), V.cut xs (o + j * k) k = some (cl L[j]) := by
  rcases hv with ⟨h1, rfl⟩ | ⟨b, o, c, xs, e, fr, h1, h2, h3⟩
  · simp at hi
  · cases h1
    exact ⟨b, o, xs, e, fr, rfl, h2, h3⟩
def longB (s : SH) : Bool := decide ((s.key.size : Int) > 100) || decide ((s.text.size : Int) > 150)
/-- Shadows that came in tell of seven replicas alone. -/
def Plain7 (s : SH) : Prop := s.seen = sev (s.seen 0) (s.seen 1) (s.seen 2) (s.seen 3) (s.seen 4) (s.seen 5) (s.seen 6)
/-- Where a row lies, if there is one. -/
theorem RowsIs.pos {α : Type} {cl : α → List Value} {k : Nat} {h : Nat → Option Obj} {a : Option Addr} {n c : Nat} {L : List α} (hv : RowsIs cl k h (.slice a n c) L) :
    ∃ (b o : Nat) (xs : List Value) (e : TypeId) (fr : Nat × Nat), 0 < L.length → a = some ⟨b, o, none⟩ ∧ h b = some (.cells xs.toArray e fr) ∧ ∀ j (hj : j < L.length), V.cut xs (o + j * k) k = some (cl L[j]) := by
  by_cases h0 : 0 < L.length
  · obtain ⟨b, o, xs, e, fr, h1⟩ := hv.at h0
    exact ⟨b, o, xs, e, fr, fun _ => h1⟩
  · exact ⟨0, 0, [], 0, (0, 0), fun h1 => absurd h1 h0⟩
theorem goodName_k : goodName (ByteArray.mk #[107]) = true := by decide +kernel
theorem cut_sub {xs : List Value} {o n : Nat} {l : List Value} (h : V.cut xs o n = some l) (j k : Nat) (hk : j + k ≤ n) : V.cut xs (o + j) k = some ((l.drop j).take k) := by
  obtain ⟨h1, h2⟩ := cut_spec h
  by_cases h0 : k = 0
  · subst h0
    simp only [List.take_zero]
    cases xs <;> cases (o + j) <;> rfl
  · have hlen : o + j + k ≤ xs.length := by
      have h3 := h2 (j + k - 1) (by omega)
      have h4 : j + k - 1 < l.length := by omega
      rw [List.getElem?_eq_getElem h4] at h3
      have := (List.getElem?_eq_some_iff.1 h3.symm).1
      omega
    rw [cut_take xs (o + j) k hlen]
    congr 1
    apply List.ext_getElem?
    intro i
    by_cases hi : i < k
    · rw [List.getElem?_take_of_lt hi, List.getElem?_drop, List.getElem?_take_of_lt hi, List.getElem?_drop, h2 (j + i) (by omega)]
      congr 1; omega
    · rw [List.getElem?_eq_none (by simp; omega), List.getElem?_eq_none (by simp; omega)]
theorem s_long (s : SH) : Ctr Tryz.prog F_rostrumlaw14_long [.agg (shcells s)] [] (fun x H => x = bv (longB s) ∧ H = []) := by
  refine i_rostrumlaw14_long.spec follows ?_
  refine And.intro (fun h => ?_) (fun h => ?_)
  · refine VRet.mk [] (bv _) [] ⟨rfl, rfl, rfl⟩ ⟨?_, rfl⟩
    have h : decide ((s.key.size : Int) > 100) = false := h
    rw [longB, h]; rfl
  · refine VRet.mk [] (bv _) [] ⟨rfl, rfl, rfl⟩ ⟨?_, rfl⟩
    have h : decide ((s.key.size : Int) > 100) = true := h
    rw [longB, h]; rfl
theorem longB_no {s : SH} (h : longB s = false) : s.key.size ≤ 100 ∧ s.text.size ≤ 150 := by
  unfold longB at h
  simp only [Bool.or_eq_false_iff, decide_eq_false_iff_not] at h
  omega
/-! ### What is told of the number -/
abbrev kk : ByteArray := ByteArray.mk #[107]
def B1 : SH := ⟨0, 1, fun _ => 0, 3, kk, ByteArray.mk #[], 5, 0⟩
def B2 : SH := ⟨0, 2, fun i => if i = 0 then 1 else 0, 3, kk, ByteArray.mk #[], -2, 0⟩
theorem goodB1 : goodS B1 = true := by
  have h1 : isDot 0 1 = true := by decide
  have h2 : vgoodB (fun _ => 0) = true := by decide
  simp only [goodS, B1, h1, h2, goodName_k]; decide +kernel
theorem goodB2 : goodS B2 = true := by
  have h1 : isDot 0 2 = true := by decide
  have h2 : vgoodB (fun i => if i = 0 then 1 else 0) = true := by decide
  simp only [goodS, B2, h1, h2, goodName_k]; decide +kernel
abbrev w0 : Nat → Int := fun _ => 0
abbrev w1 : Nat → Int := upv w0 0 1
abbrev w2 : Nat → Int := upv w1 0 2
theorem has0 : has w0 0 1 = false := by decide
theorem ready0 : readyB B1 w0 = true := by decide
theorem has1 : has w1 0 2 = false := by decide
theorem ready1 : readyB B2 w1 = true := by decide
theorem tad1 : tadE vz vz 0 5 = 0 := by decide
theorem tad2 : tadE (upv vz 0 5) vz 0 (-2) = 0 := by decide
theorem tadU1 : tadU vz vz 0 5 = upv vz 0 5 := by unfold tadU; rw [tad1, if_pos ⟨rfl, by decide⟩]; rfl
theorem tadD1 : tadD vz vz 0 5 = vz := by unfold tadD; rw [tad1, if_neg (fun k => absurd k.2 (by decide))]
theorem appE1 (ms : MPV) (hn : lk ms (2, kk) = none) : appE w0 (lk ms) B1 = 0 ∧ appF w0 (lk ms) B1 (2, kk) = some (.num (upv vz 0 5) vz) := by
  have ho : oldA (lk ms) B1 = .num vz vz := by
    unfold oldA
    rw [show atS B1 = (2, kk) from rfl, hn]; rfl
  have hp : putAV (.num vz vz) B1 = (tadE vz vz 0 5, .num (tadU vz vz 0 5) (tadD vz vz 0 5)) := rfl
  have hE : appE w0 (lk ms) B1 = 0 := by
    unfold appE
    rw [goodB1, show has w0 B1.rep B1.n = false from has0, ready0, ho, hp]
    exact tad1
  refine ⟨hE, ?_⟩
  unfold appF
  rw [if_pos ⟨hE, rfl⟩, ho, hp, tadU1, tadD1]
theorem appE2 (ms : MPV) (hn : lk ms (2, kk) = some (.num (upv vz 0 5) vz)) : appE w1 (lk ms) B2 = 0 ∧ appF w1 (lk ms) B2 (2, kk) = some (.num (tadU (upv vz 0 5) vz 0 (-2)) (tadD (upv vz 0 5) vz 0 (-2))) := by
  have ho : oldA (lk ms) B2 = .num (upv vz 0 5) vz := by
    unfold oldA
    rw [show atS B2 = (2, kk) from rfl, hn]; rfl
  have hp : putAV (.num (upv vz 0 5) vz) B2 = (tadE (upv vz 0 5) vz 0 (-2), .num (tadU (upv vz 0 5) vz 0 (-2)) (tadD (upv vz 0 5) vz 0 (-2))) := rfl
  have hE : appE w1 (lk ms) B2 = 0 := by
    unfold appE
    rw [goodB2, show has w1 B2.rep B2.n = false from has1, ready1, ho, hp]
    exact tad2
  refine ⟨hE, ?_⟩
  unfold appF
  rw [if_pos ⟨hE, rfl⟩, ho, hp]
theorem show3 : AV.show (.num (tadU (upv vz 0 5) vz 0 (-2)) (tadD (upv vz 0 5) vz 0 (-2))) = ByteArray.mk #[51] := by
  have h : sumT (tadU (upv vz 0 5) vz 0 (-2)) (tadD (upv vz 0 5) vz 0 (-2)) 7 = 3 := by decide
  show (⟨(itoa (sumT (tadU (upv vz 0 5) vz 0 (-2)) (tadD (upv vz 0 5) vz 0 (-2)) 7)).toArray⟩ : ByteArray) = _
  rw [h]
  have h2 : itoa 3 = [51] := by unfold itoa decDigits; rfl
  rw [h2]
theorem keys1 {ms : MPV} {a : AV} (hk : (ms.map (·.1)).Nodup) (h : ∀ p, (lk ms p).isSome = true ↔ p = (2, kk)) : keysT ms 2 = [kk] := by
  have h1 : ∀ x, x ∈ keysT ms 2 ↔ x = kk := fun x => by
    rw [mem_keysT, ← get_mem]
    have := h (2, x)
    unfold lk at this
    rw [Option.isSome_map] at this
    rw [this]; simp
  have h2 : (keysT ms 2).Nodup := by
    have hd : ∀ ms : MPV, (ms.map (·.1)).Nodup → ((ms.filter (keyE 2)).map (·.1.2)).Nodup := by
      intro ms
      induction ms with
      | nil => intro _; simp
      | cons e ms ih =>
        intro hn
        simp only [List.map_cons, List.nodup_cons] at hn
        by_cases he : keyE 2 e = true
        · rw [List.filter_cons_of_pos he, List.map_cons, List.nodup_cons]
          refine ⟨fun hm => ?_, ih hn.2⟩
          obtain ⟨e', he', h2⟩ := List.mem_map.1 hm
          have h3 := List.mem_filter.1 he'
          apply hn.1
          refine List.mem_map.2 ⟨e', h3.1, ?_⟩
          have h4 : e'.1.1 = 2 := of_decide_eq_true h3.2
          have h5 : e.1.1 = 2 := of_decide_eq_true he
          exact Prod.ext (h4.trans h5.symm) h2
        · rw [List.filter_cons_of_neg he]; exact ih hn.2
    exact (List.mergeSort_perm _ _).nodup_iff.2 (hd ms hk)
  have h3 : (keysT ms 2).Perm [kk] := (List.perm_ext_iff_of_nodup h2 (by simp)).2 fun x => by rw [h1]; simp
  exact List.perm_singleton.1 h3
set_option maxHeartbeats 2000000 in
theorem s_awakeW (h : Nat → Option Obj) (hu : Uni h) (ht : Ten h) : Ctr Tryz.prog F_rostrumlaw14_awake [] [.heap h, .heap fun _ => none] (fun x H => x = bv true ∧ ∃ hs, H = [.heap h, .heap hs]) := by
  refine i_rostrumlaw14_awake.spec follows ?_
  refine VCall.mk [] s_StNew ⟨rfl, rfl, rfl⟩ ?_
  rintro _ _ ⟨rfl, rfl⟩
  refine VCall.mk [2, 3, 1, 0] (s_Apply h hu (fun _ => none) w0 [] 0 0 (StI.new _) B1 (by decide)) ⟨rfl, rfl, rfl⟩ ?_
  rintro _ _ ⟨hs1, ms1, c1, rfl, rfl, hI1, hF1⟩
  obtain ⟨e1, f1⟩ := appE1 [] rfl
  have v1 : appV w0 (lk []) B1 = w1 := by unfold appV; rw [if_pos e1]; rfl
  rw [v1] at hI1 ⊢
  rw [e1]
  have hk1 : lk ms1 (2, kk) = some (.num (upv vz 0 5) vz) := by rw [hF1]; exact f1
  have hA := s_Apply h hu hs1 w1 ms1 c1 1 hI1 B2 (by decide)
  refine VCall.mk [2, 3, 1, 0] hA ⟨rfl, rfl, rfl⟩ ?_
  rintro _ _ ⟨hs2, ms2, c2, rfl, rfl, hI2, hF2⟩
  obtain ⟨e2, f2⟩ := appE2 ms1 hk1
  have v2 : appV w1 (lk ms1) B2 = w2 := by unfold appV; rw [if_pos e2]; rfl
  rw [v2] at hI2 ⊢
  rw [e2]
  have hk2 : lk ms2 (2, kk) = some (.num (tadU (upv vz 0 5) vz 0 (-2)) (tadD (upv vz 0 5) vz 0 (-2))) := by rw [hF2]; exact f2
  have hsh : showF (lk ms2) (2, kk) = ByteArray.mk #[51] := by
    unfold showF; rw [hk2]; exact show3
  have hks : keysT ms2 2 = [kk] := by
    refine keys1 (a := .txt L0v) hI2.km fun p => ?_
    rw [hF2]
    unfold appF
    by_cases hp : p = (2, kk)
    · rw [if_pos ⟨e2, hp⟩]; simp [hp]
    · rw [if_neg (fun k => hp k.2), hF1]
      unfold appF
      rw [if_neg (fun k => hp k.2)]
      simp [lk, get_nil, hp]
  refine And.intro (fun _ => ?_) (fun k => absurd (of_decide_eq_false k) (by decide))
  refine And.intro (fun _ => ?_) (fun k => absurd (of_decide_eq_false k) (by decide))
  have hS := s_StShow h ht hs2 w2 ms2 c2 2 hI2 (by decide) 2 kk
  rw [hsh] at hS
  refine VCall.mk [2, 3, 1, 0] hS ⟨rfl, rfl, rfl⟩ ?_
  rintro _ _ ⟨rfl, rfl⟩
  refine And.intro (fun _ => ?_) (fun k => absurd k (by rw [beq_self_eq_true]; decide))
  refine VCall.mk [2, 3] (s_Have w2 ms2 c2) ⟨rfl, rfl, rfl⟩ ?_
  rintro _ _ ⟨rfl, rfl⟩
  refine And.intro (fun _ => ?_) (fun k => absurd (show true = false from k) (by decide))
  have hK := s_Keys w2 ms2 c2 2 hI2.m hI2.km (by have := hI2.ml; omega) (fun e he => by have := hI2.key e he; omega)
  rw [hks] at hK
  refine VCall.mk [2, 3] hK ⟨rfl, rfl, rfl⟩ ?_
  rintro _ _ ⟨xs, o, cp, rfl, rfl, hr⟩
  refine VCall.mk [4, 5] (s_texts [kk] [kk] xs [.string kk] T_string T_string o cp 0 1 hr ⟨Nat.le_refl _, by simp, rfl⟩ (by decide)) ⟨rfl, rfl, rfl⟩ ?_
  rintro _ _ ⟨rfl, rfl⟩
  exact VRet.mk [0, 1] (bv (decide ([kk] = [kk]))) [.heap h, .heap hs2] ⟨rfl, rfl, rfl⟩ ⟨by rw [decide_eq_true rfl], hs2, rfl⟩
theorem s_awake (h : Nat → Option Obj) (hu : Uni h) (ht : Ten h) : Ctr Tryz.prog F_rostrumlaw14_awake [] [.heap h] (fun x H => x = bv true ∧ H = [.heap h]) := ctr_own (s_awakeW h hu ht)
end Go.Proofs

namespace Go.Proofs
open Go Go.V Go.Lib
set_option maxRecDepth 100000
set_option linter.unusedVariables false

/-! ### Told again -/
theorem appE_ok {v : Nat → Int} {f : PK → Option AV} {s : SH} (h : appE v f s = 0) : goodS s = true ∧ has v s.rep s.n = false ∧ readyB s v = true ∧ (putAV (oldA f s) s).1 = 0 := by
  unfold appE at h
  split at h
  · cases h
  · rename_i h1
    split at h
    · cases h
    · rename_i h2
      split at h
      · cases h
      · rename_i h3
        exact ⟨by simpa using h1, by simpa using h2, by simpa using h3, h⟩
theorem has_upv {v : Nat → Int} {r n : Int} (hr : 0 ≤ r ∧ r < 7) (hn : 1 ≤ n) : has (upv v r.toNat n) r n = true := by
  unfold has upv
  rw [isRep_iff.2 hr]
  simp [hn]
theorem appF_no {v : Nat → Int} {f : PK → Option AV} {s : SH} (h : appE v f s ≠ 0) : appF v f s = f := by
  funext p; unfold appF; rw [if_neg (fun k => h k.1)]
theorem appV_no {v : Nat → Int} {f : PK → Option AV} {s : SH} (h : appE v f s ≠ 0) : appV v f s = v := by
  unfold appV; rw [if_neg h]
theorem appV_has {v : Nat → Int} {f : PK → Option AV} {s : SH} (h : appE v f s = 0) : has (appV v f s) s.rep s.n = true := by
  obtain ⟨h1, _⟩ := appE_ok h
  obtain ⟨hr, hn, _⟩ := goodS_rep h1
  unfold appV; rw [if_pos h]
  exact has_upv hr hn
theorem app_again (v : Nat → Int) (f : PK → Option AV) (s : SH) : appE (appV v f s) (appF v f s) s ≠ 0 := by
  by_cases h : appE v f s = 0
  · have h1 := (appE_ok h).1
    have h2 := appV_has h
    have : appE (appV v f s) (appF v f s) s = 5 := by
      conv => lhs; unfold appE
      rw [if_neg (by rw [h1]; decide), if_pos h2]
    rw [this]; decide
  · rw [appV_no h, appF_no h]; exact h
structure OX where
  i : Nat
  hs : Nat → Option Obj
  v : Nat → Int
  ms : MPV
  c : Nat
abbrev SS2 (h hs : Nat → Option Obj) (v : Nat → Int) (ms : MPV) (c : Nat) : List SO := [.heap h, .heap hs, .cells (vcells v ++ [.mp 3]) T_state_State, .map (ents encP encVV ms) c]
theorem b2s_brow {ys : List Value} {o c : Nat} {l : List Int} (hb : Brow ys o c l) (hl : Byt l) : (some ((ys.drop o).take (l.length * 1), l.length) : Option (List Value × Nat)) = some ((strOf l).data.toList.map (fun b => Value.int .u8 b.toNat), (strOf l).size) := by
  rw [hb.take1, strOf_cells hl, strOf_size]
set_option maxHeartbeats 4000000 in
theorem s_StateOnceW (h : Nat → Option Obj) (hu : Uni h) (ht : Ten h) (v1 : Value) (L : List SH) (hv1 : RowsIs shcl 14 h v1 L) :
    Ctr Tryz.prog F_rostrumlaw14_StateOnce [.raw v1] [.heap h, .heap fun _ => none] (fun x H => x = bv true ∧ ∃ hs, H = [.heap h, .heap hs]) := by
  obtain ⟨la, lc, rfl⟩ := hv1.shape
  obtain ⟨bL, oL, xL, eL, fL, HL⟩ := hv1.pos
  refine i_rostrumlaw14_StateOnce.spec follows ?_
  refine VCall.mk [0] (s_awake h hu ht) ⟨rfl, rfl, rfl⟩ ?_
  rintro _ _ ⟨rfl, rfl⟩
  refine And.intro (fun h => absurd h (by simp)) (fun _ => ?_)
  refine And.intro (fun k1 => VRet.mk [0, 1] (bv true) [.heap h, .heap fun _ => none] ⟨rfl, rfl, rfl⟩ ⟨rfl, _, rfl⟩) (fun k1 => ?_)
  have k1 := of_decide_eq_false k1
  have hL30 : L.length ≤ 30 := by omega
  refine VCall.mk [] s_StNew ⟨rfl, rfl, rfl⟩ ?_
  rintro _ _ ⟨rfl, rfl⟩
  refine VLoop.mk OX (fun x => [(0, .raw (.slice la L.length lc)), (3, .ptr 2 0), (4, iv x.i)]) (fun x => SS2 h x.hs x.v x.ms x.c) (fun x => x.i ≤ L.length ∧ StI x.hs x.v x.ms x.c (2 * x.i)) (fun x => L.length - x.i) ⟨0, fun _ => none, w0, [], 0⟩ [0, 1, 2, 3]
    ⟨⟨Nat.zero_le _, StI.new _⟩, rfl, rfl, rfl⟩ ?_
  rintro ⟨i, hs, v, ms, c⟩ ⟨hi, hI⟩ g
  simp only at hi hI
  refine And.intro (fun h1 => ?_) (fun h1 => ?_)
  · have h1 : (i : Int) < (L.length : Nat) := of_decide_eq_true h1
    have hil : i < L.length := by omega
    have hwi : IntKind.i64.wrap ((i : Int) + 1) = ((i + 1 : Nat) : Int) := wrap64 (by omega)
    obtain ⟨hla, hh, hcut⟩ := HL (by omega)
    subst hla
    have hni : (0 : Int) ≤ (i : Int) ∧ (i : Int) < (L.length : Nat) := ⟨Int.natCast_nonneg i, h1⟩
    have ci : V.cut xL (oL + (i : Int).toNat * 14) 14 = some (shcl L[i]) := by rw [Int.toNat_natCast]; exact hcut i hil
    have ci2 := cut_sub ci 0 2 (by omega)
    generalize L[i] = s at ci ci2
    refine And.intro hni ?_
    refine Exists.intro 0 (Exists.intro xL (Exists.intro eL (Exists.intro fL (And.intro hh (Exists.intro _ (And.intro ci ?_))))))
    refine VCall.mk [] (s_long s) ⟨rfl, rfl, rfl⟩ ?_
    rintro _ _ ⟨rfl, rfl⟩
    refine And.intro (fun hq => VRet.mk [0, 1] (bv true) [.heap h, .heap hs] ⟨rfl, rfl, rfl⟩ ⟨rfl, _, rfl⟩) (fun hq => ?_)
    have hsz := longB_no hq
    refine And.intro hni ?_
    refine Exists.intro 0 (Exists.intro xL (Exists.intro eL (Exists.intro fL (And.intro hh (Exists.intro _ (And.intro ci ?_))))))
    refine VCall.mk [2, 3, 1, 0] (s_Apply h hu hs v ms c (2 * i) hI s (by omega)) ⟨rfl, rfl, rfl⟩ ?_
    rintro _ _ ⟨hs1, ms1, c1, rfl, rfl, hI1, hF1⟩
    have hf1 : lk ms1 = appF v (lk ms) s := funext hF1
    have hag := app_again v (lk ms) s
    have hhas := appV_has (v := v) (f := lk ms) (s := s)
    rw [← hf1] at hag
    generalize appV v (lk ms) s = v' at hI1 hag hhas
    generalize appE v (lk ms) s = e at hhas
    refine VCall.mk [2, 3, 1] (s_Bytes hs1 v' ms1 c1 (2 * i + 1) hI1 (by omega)) ⟨rfl, rfl, rfl⟩ ?_
    rintro _ _ ⟨o1, c1', y1, rfl, rfl, b1⟩
    refine Exists.intro _ (And.intro (b2s_brow b1 (stB_byt v' ms1)) ?_)
    refine And.intro hni ?_
    refine Exists.intro 0 (Exists.intro xL (Exists.intro eL (Exists.intro fL (And.intro hh (Exists.intro _ (And.intro ci ?_))))))
    refine VCall.mk [2, 3, 1, 0] (s_Apply h hu hs1 v' ms1 c1 (2 * i + 1) hI1 s (by omega)) ⟨rfl, rfl, rfl⟩ ?_
    rintro _ _ ⟨hs2, ms2, c2, rfl, rfl, hI2, hF2⟩
    have hv2 := appV_no hag
    have hf2 : ∀ p, lk ms2 p = lk ms1 p := fun p => by rw [hF2, appF_no hag]
    rw [hv2] at hI2 ⊢
    generalize appE v' (lk ms1) s = f at hag
    have hB : stB v' ms2 = stB v' ms1 := stB_congr hI2.km hI1.km hf2
    have hBs := s_Bytes hs2 v' ms2 c2 (2 * i + 1 + 1) hI2 (by omega)
    rw [hB] at hBs
    refine VCall.mk [2, 3, 1] hBs ⟨rfl, rfl, rfl⟩ ?_
    rintro _ _ ⟨o2, c2', y2, rfl, rfl, b2⟩
    refine Exists.intro _ (And.intro (b2s_brow b2 (stB_byt v' ms1)) ?_)
    have hgo : ∃ x' : OX, x' = ⟨i + 1, hs2, v', ms2, c2⟩ ∧ (x'.i ≤ L.length ∧ StI x'.hs x'.v x'.ms x'.c (2 * x'.i)) ∧ L.length - x'.i < L.length - i := ⟨_, rfl, ⟨hil, hI2⟩, by simp only; omega⟩
    obtain ⟨x', hx', hgo1, hgo2⟩ := hgo
    refine And.intro (fun _ => ?_) (fun k => absurd k (by rw [beq_self_eq_true]; decide))
    refine And.intro (fun ke => ?_) (fun ke => ?_)
    · have ke : e = 0 := of_decide_eq_true ke
      refine And.intro (fun kf => ?_) (fun kf => absurd (of_decide_eq_true kf) hag)
      refine And.intro (fun _ => ?_) (fun k => absurd ke (of_decide_eq_false k))
      refine And.intro hni ?_
      refine Exists.intro 0 (Exists.intro xL (Exists.intro eL (Exists.intro fL (And.intro hh (Exists.intro _ (And.intro ci2 ?_))))))
      refine VCall.mk [2, 3] (s_Have v' ms2 c2) ⟨rfl, rfl, rfl⟩ ?_
      rintro _ _ ⟨rfl, rfl⟩
      refine And.intro (And.intro hni rfl) (And.intro (Exists.intro 0 (Exists.intro xL (Exists.intro eL (Exists.intro fL (And.intro hh (Exists.intro _ (And.intro ci2 rfl))))))) ?_)
      refine VCall.mk [] (s_vec_Has v' s.rep s.n) ⟨rfl, rfl, rfl⟩ ?_
      rintro _ _ ⟨rfl, rfl⟩
      refine And.intro (fun k => absurd (hhas ke) (by have k : (!has v' s.rep s.n) = true := k; simpa using k)) (fun _ => ?_)
      refine Exists.intro _ (And.intro hwi ?_)
      subst hx'
      exact Exists.intro ⟨i + 1, hs2, v', ms2, c2⟩ (Exists.intro [0, 1, 2, 3] (And.intro ⟨hgo1, hgo2⟩ ⟨rfl, rfl, rfl⟩))
    · have ke : ¬ e = 0 := of_decide_eq_false ke
      refine And.intro (fun k => absurd (of_decide_eq_true k) ke) (fun _ => ?_)
      refine And.intro rfl (And.intro rfl ?_)
      refine Exists.intro _ (And.intro hwi ?_)
      subst hx'
      exact Exists.intro ⟨i + 1, hs2, v', ms2, c2⟩ (Exists.intro [0, 1, 2, 3] (And.intro ⟨hgo1, hgo2⟩ ⟨rfl, rfl, rfl⟩))
  · exact VRet.mk [0, 1] (bv true) [.heap h, .heap hs] ⟨rfl, rfl, rfl⟩ ⟨rfl, _, rfl⟩
theorem s_StateOnce (h : Nat → Option Obj) (hu : Uni h) (ht : Ten h) (v1 : Value) (L : List SH) (hv1 : RowsIs shcl 14 h v1 L) :
    Ctr Tryz.prog F_rostrumlaw14_StateOnce [.raw v1] [.heap h] (fun x H => x = bv true ∧ H = [.heap h]) := ctr_own (s_StateOnceW h hu ht v1 L hv1)
end Go.Proofs

