/- Part of the proof that the statement named in the last file holds: lemmas of the prover's own. No conditions. -/
import Derived.Test.YtfnjbdnnnpbeaaaGreatDoorSB
import Derived.Test.YtfnjbdnnnpbeaaaGreatDoorVD
namespace Go.Proofs
open Go Go.V Go.Lib
set_option maxRecDepth 100000
set_option linter.unusedVariables false

/-! ### The last block forgotten -/
theorem St.front {ρ : Rho} {H : List SO} {o : SO} {g : Fr} {w : World} (h : St ρ (H ++ [o]) g w) (hp : ∀ x, x ∈ H → plainO x = true) : St ρ H g w := by
  have up : ∀ (k : Nat) x, H[k]? = some x → (H ++ [o])[k]? = some x := fun k x hk => by
    rw [List.getElem?_append_left (List.getElem?_eq_some_iff.1 hk).1]; exact hk
  constructor
  · exact fun k so hk => h.ent k so (up k so hk)
  · exact fun i j si sj b hij hi hj => h.dis i j si sj b hij (up _ _ hi) (up _ _ hj)
  · exact fun i j si g' b hi ho hj => h.gho i j si g' b (up _ _ hi) ho (up _ _ hj)
  · exact h.env
  · exact h.frm
  · exact fun i si b hi => h.frd i si b (up _ _ hi)
  · intro k l e hk
    have := hp _ (List.mem_of_getElem? hk); cases this
  · intro k m s seen st hk
    have := hp _ (List.mem_of_getElem? hk); cases this
  · exact fun j g' b hj => h.hpf j g' b (up _ _ hj)
  · exact fun j i g' b si hj hn hi => h.hpo j i g' b si (up _ _ hj) hn (up _ _ hi)
  · exact fun j i g' b si hj hn hij hi => h.hpc j i g' b si (up _ _ hj) hn hij (up _ _ hi)
/-- With an empty heap of its own that is given up at the end. -/
theorem ctr_own {P : Program} {f : FuncId} {args : List SV} {h : Nat → Option Obj} {b : Bool} (hc : Ctr P f args [.heap h, .heap fun _ => none] (fun x H => x = bv b ∧ ∃ hs, H = [.heap h, .heap hs])) : Ctr P f args [.heap h] (fun x H => x = bv b ∧ H = [.heap h]) := by
  have h1 := ctr_heap0 (H := [.heap h]) hc
  intro ρ g w hS hb
  refine Calls.mono (h1 ρ g w hS hb) ?_
  rintro e w' ⟨ρ', v, H', rfl, hS', hρ, hl, hbl, rfl, hs, rfl⟩
  exact ⟨ρ', bv b, [.heap h], rfl, St.front (H := [.heap h]) hS' (by simp [plainO]), hρ, Nat.le_refl _, rfl, rfl, rfl⟩
theorem ctr_own2 {P : Program} {f : FuncId} {args : List SV} {h : Nat → Option Obj} {b : Bool} (hc : Ctr P f args [.heap h, .heap fun _ => none, .heap fun _ => none] (fun x H => x = bv b ∧ ∃ hs hs', H = [.heap h, .heap hs, .heap hs'])) : Ctr P f args [.heap h] (fun x H => x = bv b ∧ H = [.heap h]) := by
  have h1 := ctr_heap0 (H := [.heap h]) (ctr_heap0 (H := [.heap h, .heap fun _ => none]) hc)
  intro ρ g w hS hb
  refine Calls.mono (h1 ρ g w hS hb) ?_
  rintro e w' ⟨ρ', v, H', rfl, hS', hρ, hl, hbl, rfl, hs, hs', rfl⟩
  exact ⟨ρ', bv b, [.heap h], rfl, St.front (H := [.heap h]) (St.front (H := [.heap h, .heap hs]) hS' (by simp [plainO])) (by simp [plainO]), hρ, Nat.le_refl _, rfl, rfl, rfl⟩
/-! ### Shadows that came in -/
def sev (a b c d e f g : Int) : Nat → Int
  | 0 => a | 1 => b | 2 => c | 3 => d | 4 => e | 5 => f | 6 => g | _ => 0
abbrev shcl (s : SH) : List Value := [.int .i64 s.rep, .int .i64 s.n, .int .i64 (s.seen 0), .int .i64 (s.seen 1), .int .i64 (s.seen 2), .int .i64 (s.seen 3), .int .i64 (s.seen 4), .int .i64 (s.seen 5), .int .i64 (s.seen 6), .int .i64 s.kind, .string s.key, .string s.text, .int .i64 s.by', .int .i64 s.time]
def RowsIs {α : Type} (cl : α → List Value) (k : Nat) (h : Nat → Option Obj) (v : Value) (L : List α) : Prop := ((∃ a c, v = .slice a 0 c) ∧ L = []) ∨
  ∃ (b o c : Nat) (xs : List Value) (e : TypeId) (fr : Nat × Nat), v = .slice (some ⟨b, o, none⟩) L.length c ∧ h b = some (.cells xs.toArray e fr) ∧ ∀ i (hi : i < L.length), V.cut xs (o + i * k) k = some (cl L[i])
theorem RowsIs.shape {α : Type} {cl : α → List Value} {k : Nat} {h : Nat → Option Obj} {v : Value} {L : List α} (hv : RowsIs cl k h v L) : ∃ a c, v = .slice a L.length c := by
  rcases hv with ⟨⟨a, c, rfl⟩, rfl⟩ | ⟨b, o, c, xs, e, fr, rfl, _⟩
  · exact ⟨a, c, rfl⟩
  · exact ⟨_, c, rfl⟩
theorem RowsIs.at {α : Type} {cl : α → List Value} {k : Nat} {h : Nat → Option Obj} {a : Option Addr} {n c : Nat} {L : List α} (hv : RowsIs cl k h (.slice a n c) L) {i : Nat} (hi : i < L.length) :
    ∃ (b o : Nat) (xs : List Value) (e : TypeId) (fr : Nat × Nat), a = some ⟨b, o, none⟩ ∧ h b = some (.cells xs.toArray e fr) ∧ ∀ j (hj : j < L.length), V.cut xs (o + j * k) k = some (cl L[j]) := by
  rcases hv with ⟨h1, rfl⟩ | ⟨b, o, c, xs, e, fr, h1, h2, h3⟩
  · simp at hi
  · cases h1
    exact ⟨b, o, xs, e, fr, rfl, h2, h3⟩
def longB (s : SH) : Bool := decide ((s.key.size : Int) > 100) || decide ((s.text.size : Int) > 150)
/-- Shadows that came in tell of seven replicas alone. -/
def Plain7 (s : SH) : Prop := s.seen = sev (s.seen 0) (s.seen 1) (s.seen 2) (s.seen 3) (s.seen 4) (s.seen 5) (s.seen 6)
/-- Where a row lies, if there is one. -/
theorem RowsIs.pos {α : Type} {cl : α → List Value} {k : Nat} {h : Nat → Option Obj} {a : Option Addr} {n c : Nat} {L : List α} (hv : RowsIs cl k h (.slice a n c) L) :
    ∃ (b o : Nat) (xs : List Value) (e : TypeId) (fr : Nat × Nat), 0 < L.length → a = some ⟨b, o, none⟩ ∧ h b = some (.cells xs.toArray e fr) ∧ ∀ j (hj : j < L.length), V.cut xs (o + j * k) k = some (cl L[j]) := by
  by_cases h0 : 0 < L.length
  · obtain ⟨b, o, xs, e, fr, h1⟩ := hv.at h0
    exact ⟨b, o, xs, e, fr, fun _ => h1⟩
  · exact ⟨0, 0, [], 0, (0, 0), fun h1 => absurd h1 h0⟩
theorem goodName_k : goodName (ByteArray.mk #[107]) = true := by decide +kernel
theorem s_long (s : SH) : Ctr Tryz.prog F_rostrumlaw14_long [.agg (shcells s)] [] (fun x H => x = bv (longB s) ∧ H = []) := by
  refine i_rostrumlaw14_long.spec follows ?_
  refine And.intro (fun h => ?_) (fun h => ?_)
  · refine VRet.mk [] (bv _) [] ⟨rfl, rfl, rfl⟩ ⟨?_, rfl⟩
    have h : decide ((s.key.size : Int) > 100) = false := h
    rw [longB, h]; rfl
  · refine VRet.mk [] (bv _) [] ⟨rfl, rfl, rfl⟩ ⟨?_, rfl⟩
    have h : decide ((s.key.size : Int) > 100) = true := h
    rw [longB, h]; rfl
theorem longB_no {s : SH} (h : longB s = false) : s.key.size ≤ 100 ∧ s.text.size ≤ 150 := by
  unfold longB at h
  simp only [Bool.or_eq_false_iff, decide_eq_false_iff_not] at h
  omega
/-! ### What is told of the number -/
abbrev kk : ByteArray := ByteArray.mk #[107]
def B1 : SH := ⟨0, 1, fun _ => 0, 3, kk, ByteArray.mk #[], 5, 0⟩
def B2 : SH := ⟨0, 2, fun i => if i = 0 then 1 else 0, 3, kk, ByteArray.mk #[], -2, 0⟩
theorem goodB1 : goodS B1 = true := by
  have h1 : isDot 0 1 = true := by decide
  have h2 : vgoodB (fun _ => 0) = true := by decide
  simp only [goodS, B1, h1, h2, goodName_k]; decide +kernel
theorem goodB2 : goodS B2 = true := by
  have h1 : isDot 0 2 = true := by decide
  have h2 : vgoodB (fun i => if i = 0 then 1 else 0) = true := by decide
  simp only [goodS, B2, h1, h2, goodName_k]; decide +kernel
abbrev w0 : Nat → Int := fun _ => 0
abbrev w1 : Nat → Int := upv w0 0 1
abbrev w2 : Nat → Int := upv w1 0 2
theorem has0 : has w0 0 1 = false := by decide
theorem ready0 : readyB B1 w0 = true := by decide
theorem has1 : has w1 0 2 = false := by decide
theorem ready1 : readyB B2 w1 = true := by decide
theorem tad1 : tadE vz vz 0 5 = 0 := by decide
theorem tad2 : tadE (upv vz 0 5) vz 0 (-2) = 0 := by decide
theorem tadU1 : tadU vz vz 0 5 = upv vz 0 5 := by unfold tadU; rw [tad1, if_pos ⟨rfl, by decide⟩]; rfl
theorem tadD1 : tadD vz vz 0 5 = vz := by unfold tadD; rw [tad1, if_neg (fun k => absurd k.2 (by decide))]
theorem appE1 (ms : MPV) (hn : lk ms (2, kk) = none) : appE w0 (lk ms) B1 = 0 ∧ appF w0 (lk ms) B1 (2, kk) = some (.num (upv vz 0 5) vz) := by
  have ho : oldA (lk ms) B1 = .num vz vz := by
    unfold oldA
    rw [show atS B1 = (2, kk) from rfl, hn]; rfl
  have hp : putAV (.num vz vz) B1 = (tadE vz vz 0 5, .num (tadU vz vz 0 5) (tadD vz vz 0 5)) := rfl
  have hE : appE w0 (lk ms) B1 = 0 := by
    unfold appE
    rw [goodB1, show has w0 B1.rep B1.n = false from has0, ready0, ho, hp]
    exact tad1
  refine ⟨hE, ?_⟩
  unfold appF
  rw [if_pos ⟨hE, rfl⟩, ho, hp, tadU1, tadD1]
theorem appE2 (ms : MPV) (hn : lk ms (2, kk) = some (.num (upv vz 0 5) vz)) : appE w1 (lk ms) B2 = 0 ∧ appF w1 (lk ms) B2 (2, kk) = some (.num (tadU (upv vz 0 5) vz 0 (-2)) (tadD (upv vz 0 5) vz 0 (-2))) := by
  have ho : oldA (lk ms) B2 = .num (upv vz 0 5) vz := by
    unfold oldA
    rw [show atS B2 = (2, kk) from rfl, hn]; rfl
  have hp : putAV (.num (upv vz 0 5) vz) B2 = (tadE (upv vz 0 5) vz 0 (-2), .num (tadU (upv vz 0 5) vz 0 (-2)) (tadD (upv vz 0 5) vz 0 (-2))) := rfl
  have hE : appE w1 (lk ms) B2 = 0 := by
    unfold appE
    rw [goodB2, show has w1 B2.rep B2.n = false from has1, ready1, ho, hp]
    exact tad2
  refine ⟨hE, ?_⟩
  unfold appF
  rw [if_pos ⟨hE, rfl⟩, ho, hp]
theorem show3 : AV.show (.num (tadU (upv vz 0 5) vz 0 (-2)) (tadD (upv vz 0 5) vz 0 (-2))) = ByteArray.mk #[51] := by
  have h : sumT (tadU (upv vz 0 5) vz 0 (-2)) (tadD (upv vz 0 5) vz 0 (-2)) 7 = 3 := by decide
  show (⟨(itoa (sumT (tadU (upv vz 0 5) vz 0 (-2)) (tadD (upv vz 0 5) vz 0 (-2)) 7)).toArray⟩ : ByteArray) = _
  rw [h]
  have h2 : itoa 3 = [51] := by unfold itoa decDigits; rfl
  rw [h2]
theorem keys1 {ms : MPV} {a : AV} (hk : (ms.map (·.1)).Nodup) (h : ∀ p, (lk ms p).isSome = true ↔ p = (2, kk)) : keysT ms 2 = [kk] := by
  have h1 : ∀ x, x ∈ keysT ms 2 ↔ x = kk := fun x => by
    rw [mem_keysT, ← get_mem]
    have := h (2, x)
    unfold lk at this
    rw [Option.isSome_map] at this
    rw [this]; simp
  have h2 : (keysT ms 2).Nodup := by
    have hd : ∀ ms : MPV, (ms.map (·.1)).Nodup → ((ms.filter (keyE 2)).map (·.1.2)).Nodup := by
      intro ms
      induction ms with
      | nil => intro _; simp
      | cons e ms ih =>
        intro hn
        simp only [List.map_cons, List.nodup_cons] at hn
        by_cases he : keyE 2 e = true
        · rw [List.filter_cons_of_pos he, List.map_cons, List.nodup_cons]
          refine ⟨fun hm => ?_, ih hn.2⟩
          obtain ⟨e', he', h2⟩ := List.mem_map.1 hm
          have h3 := List.mem_filter.1 he'
          apply hn.1
          refine List.mem_map.2 ⟨e', h3.1, ?_⟩
          have h4 : e'.1.1 = 2 := of_decide_eq_true h3.2
          have h5 : e.1.1 = 2 := of_decide_eq_true he
          exact Prod.ext (h4.trans h5.symm) h2
        · rw [List.filter_cons_of_neg he]; exact ih hn.2
    exact (List.mergeSort_perm _ _).nodup_iff.2 (hd ms hk)
  have h3 : (keysT ms 2).Perm [kk] := (List.perm_ext_iff_of_nodup h2 (by simp)).2 fun x => by rw [h1]; simp
  exact List.perm_singleton.1 h3
set_option maxHeartbeats 2000000 in
theorem s_awakeW (h : Nat → Option Obj) (hu : Uni h) (ht : Ten h) : Ctr Tryz.prog F_rostrumlaw14_awake [] [.heap h, .heap fun _ => none] (fun x H => x = bv true ∧ ∃ hs, H = [.heap h, .heap hs]) := by
  refine i_rostrumlaw14_awake.spec follows ?_
  refine VCall.mk [] s_StNew ⟨rfl, rfl, rfl⟩ ?_
  rintro _ _ ⟨rfl, rfl⟩
  refine VCall.mk [2, 3, 1, 0] (s_Apply h hu (fun _ => none) w0 [] 0 0 (StI.new _) B1 (by decide)) ⟨rfl, rfl, rfl⟩ ?_
  rintro _ _ ⟨hs1, ms1, c1, rfl, rfl, hI1, hF1⟩
  obtain ⟨e1, f1⟩ := appE1 [] rfl
  have v1 : appV w0 (lk []) B1 = w1 := by unfold appV; rw [if_pos e1]; rfl
  rw [v1] at hI1 ⊢
  rw [e1]
  have hk1 : lk ms1 (2, kk) = some (.num (upv vz 0 5) vz) := by rw [hF1]; exact f1
  have hA := s_Apply h hu hs1 w1 ms1 c1 1 hI1 B2 (by decide)
  refine VCall.mk [2, 3, 1, 0] hA ⟨rfl, rfl, rfl⟩ ?_
  rintro _ _ ⟨hs2, ms2, c2, rfl, rfl, hI2, hF2⟩
  obtain ⟨e2, f2⟩ := appE2 ms1 hk1
  have v2 : appV w1 (lk ms1) B2 = w2 := by unfold appV; rw [if_pos e2]; rfl
  rw [v2] at hI2 ⊢
  rw [e2]
  have hk2 : lk ms2 (2, kk) = some (.num (tadU (upv vz 0 5) vz 0 (-2)) (tadD (upv vz 0 5) vz 0 (-2))) := by rw [hF2]; exact f2
  have hsh : showF (lk ms2) (2, kk) = ByteArray.mk #[51] := by
    unfold showF; rw [hk2]; exact show3
  have hks : keysT ms2 2 = [kk] := by
    refine keys1 (a := .txt L0v) hI2.km fun p => ?_
    rw [hF2]
    unfold appF
    by_cases hp : p = (2, kk)
    · rw [if_pos ⟨e2, hp⟩]; simp [hp]
    · rw [if_neg (fun k => hp k.2), hF1]
      unfold appF
      rw [if_neg (fun k => hp k.2)]
      simp [lk, get_nil, hp]
  refine And.intro (fun _ => ?_) (fun k => absurd (of_decide_eq_false k) (by decide))
  refine And.intro (fun _ => ?_) (fun k => absurd (of_decide_eq_false k) (by decide))
  have hS := s_StShow h ht hs2 w2 ms2 c2 2 hI2 (by decide) 2 kk
  rw [hsh] at hS
  refine VCall.mk [2, 3, 1, 0] hS ⟨rfl, rfl, rfl⟩ ?_
  rintro _ _ ⟨rfl, rfl⟩
  refine And.intro (fun _ => ?_) (fun k => absurd k (by rw [beq_self_eq_true]; decide))
  refine VCall.mk [2, 3] (s_Have w2 ms2 c2) ⟨rfl, rfl, rfl⟩ ?_
  rintro _ _ ⟨rfl, rfl⟩
  refine And.intro (fun _ => ?_) (fun k => absurd (show true = false from k) (by decide))
  have hK := s_Keys w2 ms2 c2 2 hI2.m hI2.km (by have := hI2.ml; omega) (fun e he => by have := hI2.key e he; omega)
  rw [hks] at hK
  refine VCall.mk [2, 3] hK ⟨rfl, rfl, rfl⟩ ?_
  rintro _ _ ⟨xs, o, cp, rfl, rfl, hr⟩
  refine VCall.mk [4, 5] (s_texts [kk] [kk] xs [.string kk] T_string T_string o cp 0 1 hr ⟨Nat.le_refl _, by simp, rfl⟩ (by decide)) ⟨rfl, rfl, rfl⟩ ?_
  rintro _ _ ⟨rfl, rfl⟩
  exact VRet.mk [0, 1] (bv (decide ([kk] = [kk]))) [.heap h, .heap hs2] ⟨rfl, rfl, rfl⟩ ⟨by rw [decide_eq_true rfl], hs2, rfl⟩
theorem s_awake (h : Nat → Option Obj) (hu : Uni h) (ht : Ten h) : Ctr Tryz.prog F_rostrumlaw14_awake [] [.heap h] (fun x H => x = bv true ∧ H = [.heap h]) := ctr_own (s_awakeW h hu ht)
end Go.Proofs

namespace Go.Proofs
open Go Go.V Go.Lib
set_option maxRecDepth 100000
set_option linter.unusedVariables false

/-! ### Told again -/
theorem appE_ok {v : Nat → Int} {f : PK → Option AV} {s : SH} (h : appE v f s = 0) : goodS s = true ∧ has v s.rep s.n = false ∧ readyB s v = true ∧ (putAV (oldA f s) s).1 = 0 := by
  unfold appE at h
  split at h
  · cases h
  · rename_i h1
    split at h
    · cases h
    · rename_i h2
      split at h
      · cases h
      · rename_i h3
        exact ⟨by simpa using h1, by simpa using h2, by simpa using h3, h⟩
theorem has_upv {v : Nat → Int} {r n : Int} (hr : 0 ≤ r ∧ r < 7) (hn : 1 ≤ n) : has (upv v r.toNat n) r n = true := by
  unfold has upv
  rw [isRep_iff.2 hr]
  simp [hn]
theorem appF_no {v : Nat → Int} {f : PK → Option AV} {s : SH} (h : appE v f s ≠ 0) : appF v f s = f := by
  funext p; unfold appF; rw [if_neg (fun k => h k.1)]
theorem appV_no {v : Nat → Int} {f : PK → Option AV} {s : SH} (h : appE v f s ≠ 0) : appV v f s = v := by
  unfold appV; rw [if_neg h]
structure OX where
  i : Nat
  hs : Nat → Option Obj
  v : Nat → Int
  ms : MPV
  c : Nat
abbrev SS2 (h hs : Nat → Option Obj) (v : Nat → Int) (ms : MPV) (c : Nat) : List SO := [.heap h, .heap hs, .cells (vcells v ++ [.mp 3]) T_state_State, .map (ents encP encVV ms) c]
theorem b2s_brow {ys : List Value} {o c : Nat} {l : List Int} (hb : Brow ys o c l) (hl : Byt l) : (some ((ys.drop o).take (l.length * 1), l.length) : Option (List Value × Nat)) = some ((strOf l).data.toList.map (fun b => Value.int .u8 b.toNat), (strOf l).size) := by
  rw [hb.take1, strOf_cells hl, strOf_size]
end Go.Proofs

namespace Go.Proofs
open Go Go.V Go.Lib
set_option maxRecDepth 100000
set_option linter.unusedVariables false

/-! ### What values have, was seen -/
def seenA (v : Nat → Int) : AV → Prop
  | .set ms c gs c2 => ∀ e, e ∈ ms → has v e.1.1 e.1.2 = true
  | .num u d => True
  | .txt l => l.b = true → has v l.r l.n = true
theorem seen_new (v : Nat → Int) (k : Int) : seenA v (newAV k) := by
  unfold newAV
  split
  · intro e he; simp at he
  · split
    · trivial
    · intro h; cases h
structure Fine (s : SH) (v : Nat → Int) : Prop where
  rep : 0 ≤ s.rep ∧ s.rep < 7
  n : 1 ≤ s.n ∧ s.n ≤ 1099511627776
  dot : isDot s.rep s.n = true
  seen : vgoodB s.seen = true
  text : s.text.size ≤ 100
  by' : -1099511627776 ≤ s.by' ∧ s.by' ≤ 1099511627776
  time : 0 ≤ s.time ∧ s.time ≤ 1099511627776
  kind : s.kind = 1 ∨ s.kind = 2 ∨ s.kind = 3 ∨ s.kind = 4
  no : has v s.rep s.n = false
  next : v s.rep.toNat = s.n - 1
  le : ∀ i, i < 7 → s.seen i ≤ v i
theorem fine_of {s : SH} {v : Nat → Int} (h1 : goodS s = true) (h2 : readyB s v = true) : Fine s v := by
  have hg := goodS_rep h1
  unfold goodS at h1
  simp only [Bool.and_eq_true, Bool.not_eq_true', decide_eq_false_iff_not, Bool.or_eq_false_iff, decide_eq_true_eq] at h1
  obtain ⟨a1, a2, a3, a4, a5, a6, a7⟩ := h1
  unfold readyB at h2
  simp only [Bool.and_eq_true, Bool.not_eq_true'] at h2
  have hle := leB_iff.1 h2.2
  have hnx := hle s.rep.toNat (by omega)
  have hno := h2.1
  unfold has at hno
  rw [isRep_iff.2 hg.1] at hno
  simp only [Bool.true_and, Bool.and_eq_false_iff, decide_eq_false_iff_not] at hno
  have hk : s.kind = 1 ∨ s.kind = 2 ∨ s.kind = 3 ∨ s.kind = 4 := by
    unfold kindB at a7
    by_cases k1 : s.kind = 1
    · exact .inl k1
    · by_cases k2 : s.kind = 2
      · exact .inr (.inl k2)
      · by_cases k3 : s.kind = 3
        · exact .inr (.inr (.inl k3))
        · by_cases k4 : s.kind = 4
          · exact .inr (.inr (.inr k4))
          · simp [k1, k2, k3, k4] at a7
  exact ⟨hg.1, hg.2, a1, a2, by omega, by omega, by omega, hk, h2.1, by omega, hle⟩
theorem has_mono {v w : Nat → Int} (h : ∀ r, r < 7 → v r ≤ w r) {r n : Int} (hh : has v r n = true) : has w r n = true := by
  unfold has at hh ⊢
  simp only [Bool.and_eq_true, decide_eq_true_eq] at hh ⊢
  have hr := isRep_iff.1 hh.1
  have := h r.toNat (by omega)
  exact ⟨hh.1, hh.2.1, by omega⟩
theorem fine_up {s : SH} {v : Nat → Int} (h : Fine s v) : ∀ r, r < 7 → v r ≤ upv v s.rep.toNat s.n r := by
  intro r hr
  unfold upv
  split
  · rename_i e; subst e; have := h.next; omega
  · exact Int.le_refl _
theorem seen_mono {v w : Nat → Int} (h : ∀ r, r < 7 → v r ≤ w r) {a : AV} (ha : seenA v a) : seenA w a := by
  cases a with
  | set ms c gs c2 => exact fun e he => has_mono h (ha e he)
  | num u d => trivial
  | txt l => exact fun hb => has_mono h (ha hb)
theorem has_up {s : SH} {v : Nat → Int} (h : Fine s v) : has (upv v s.rep.toNat s.n) s.rep s.n = true := has_upv h.rep h.n.1
theorem seen_put {s : SH} {v : Nat → Int} (h : Fine s v) {a : AV} (ha : seenA v a) : seenA (upv v s.rep.toNat s.n) (putAV a s).2 := by
  have hm := seen_mono (fine_up h) ha
  cases a with
  | set ms c gs c2 =>
    simp only [putAV]
    split
    · unfold addM
      split
      · intro e he
        rcases mem_put he with h1 | ⟨h1, _⟩
        · exact hm e h1
        · rw [h1]; exact has_up h
      · exact hm
    · exact hm
  | num u d => trivial
  | txt l =>
    simp only [putAV]
    unfold wrL
    split
    · exact hm
    · split
      · exact hm
      · split
        · exact hm
        · exact fun _ => has_up h
theorem cmpI_eq {a b : Int} (h : cmpI a b = 0) : a = b := by
  unfold cmpI at h
  split at h
  · cases h
  · split at h
    · cases h
    · omega
theorem cmpD_eq {x y : Int × Int} (h : cmpD x y = 0) : x = y := by
  simp only [cmpD, orI] at h
  by_cases h1 : cmpI x.1 y.1 = 0
  · rw [if_neg (by simpa using h1)] at h
    by_cases h2 : cmpI x.2 y.2 = 0
    · exact Prod.ext (cmpI_eq h1) (cmpI_eq h2)
    · rw [if_pos (by simpa using h2)] at h; exact absurd h h2
  · rw [if_pos (by simpa using h1)] at h; exact absurd h h1
theorem ordL_eq {l : LV} {t r n : Int} (h : ordL l t r n = 0) : t = l.t ∧ r = l.r ∧ n = l.n := by
  unfold ordL at h
  simp only [orI] at h
  by_cases h1 : cmpI t l.t = 0
  · rw [if_neg (by simpa using h1)] at h
    have h2 : cmpD (r, n) (l.r, l.n) = 0 := by
      by_cases h2 : cmpD (r, n) (l.r, l.n) = 0
      · exact h2
      · rw [if_pos (by simpa using h2)] at h; exact h
    have h3 := cmpD_eq h2
    injection h3 with h3 h4
    refine ⟨?_, h3, h4⟩
    unfold cmpI at h1
    split at h1
    · cases h1
    · split at h1
      · cases h1
      · omega
  · rw [if_pos (by simpa using h1)] at h; exact absurd h h1
/-- What a value that fits answers: done, or too much. -/
theorem putAV_err {s : SH} {v : Nat → Int} (h : Fine s v) {a : AV} (ha : seenA v a) (hk : a.kind = kindS s) : (putAV a s).1 = 0 ∨ ((putAV a s).1 = 2 ∧ s.kind = 3) := by
  cases a with
  | set ms c gs c2 =>
    left
    have hk : (1 : Int) = kindS s := hk
    have hk12 : s.kind = 1 ∨ s.kind = 2 := by
      rcases h.kind with k | k | k | k
      · exact .inl k
      · exact .inr k
      · unfold kindS at hk; rw [if_pos k] at hk; cases hk
      · unfold kindS at hk; rw [if_neg (by omega), if_pos k] at hk; cases hk
    simp only [putAV]
    split
    · show addE ms s.rep s.n s.text = 0
      unfold addE
      rw [if_neg (by rw [h.dot]; have := h.text; simp; omega)]
      cases hg : MP.get ms (s.rep, s.n) with
      | none => rfl
      | some y =>
        obtain ⟨e, he, h1, h2⟩ := mem_of_get hg
        have := ha e he
        rw [h1, h.no] at this
        cases this
    · show remE s.text s.seen = 0
      unfold remE
      rw [if_neg (by rw [h.seen]; have := h.text; simp; omega)]
  | num u d =>
    have hk : (2 : Int) = kindS s := hk
    have hk3 : s.kind = 3 := by
      unfold kindS at hk
      by_cases k : s.kind = 3
      · exact k
      · rw [if_neg k] at hk; split at hk <;> cases hk
    show tadE u d s.rep s.by' = 0 ∨ (tadE u d s.rep s.by' = 2 ∧ s.kind = 3)
    unfold tadE
    rw [if_neg (by rw [isRep_iff.2 h.rep]; have := h.by'; simp; omega)]
    by_cases hb : s.by' < 0
    · rw [if_pos hb]
      by_cases h2 : 1125899906842624 - d s.rep.toNat < -s.by'
      · rw [if_pos h2]; exact .inr ⟨rfl, hk3⟩
      · rw [if_neg h2]; exact .inl rfl
    · rw [if_neg hb]
      by_cases h2 : 1125899906842624 - u s.rep.toNat < s.by'
      · rw [if_pos h2]; exact .inr ⟨rfl, hk3⟩
      · rw [if_neg h2]; exact .inl rfl
  | txt l =>
    left
    show (wrL l s.text s.time s.rep s.n).1.2 = 0
    unfold wrL
    rw [if_neg (by unfold badL; rw [h.dot]; have := h.text; have := h.time; simp; omega)]
    by_cases h1 : l.b = true ∧ ordL l s.time s.rep s.n < 0
    · rw [if_pos h1]
    · rw [if_neg h1]
      by_cases h2 : l.b = true ∧ ordL l s.time s.rep s.n = 0
      · obtain ⟨_, hr, hn⟩ := ordL_eq h2.2
        have := ha h2.1
        rw [← hr, ← hn, h.no] at this
        cases this
      · rw [if_neg h2]
/-- All values of a state have what was seen alone, and stand at their kinds. -/
structure SeenF (v : Nat → Int) (f : PK → Option AV) : Prop where
  seen : ∀ p a, f p = some a → seenA v a
  kind : ∀ p a, f p = some a → a.kind = p.1
theorem SeenF.new (v : Nat → Int) (ms : MPV) (hn : ms = []) : SeenF v (lk ms) := by
  subst hn
  exact ⟨fun p a h => by simp [lk, get_nil] at h, fun p a h => by simp [lk, get_nil] at h⟩
theorem SeenF.old {v : Nat → Int} {f : PK → Option AV} (h : SeenF v f) (s : SH) : seenA v (oldA f s) ∧ (oldA f s).kind = kindS s := by
  unfold oldA
  cases hf : f (atS s) with
  | none => exact ⟨seen_new v _, newAV_kind (kindS_bd s)⟩
  | some a => exact ⟨h.seen _ _ hf, h.kind _ _ hf⟩
theorem SeenF.app {v : Nat → Int} {f : PK → Option AV} (h : SeenF v f) (s : SH) : SeenF (appV v f s) (appF v f s) := by
  by_cases hE : appE v f s = 0
  · obtain ⟨h1, h2, h3, h4⟩ := appE_ok hE
    have hF := fine_of h1 h3
    obtain ⟨o1, o2⟩ := h.old s
    have hV : appV v f s = upv v s.rep.toNat s.n := by unfold appV; rw [if_pos hE]
    rw [hV]
    have hA : ∀ p, appF v f s p = if p = atS s then some (putAV (oldA f s) s).2 else f p := fun p => by
      unfold appF
      by_cases hp : p = atS s
      · rw [if_pos ⟨hE, hp⟩, if_pos hp]
      · rw [if_neg (fun k => hp k.2), if_neg hp]
    have hkk : (putAV (oldA f s) s).2.kind = (oldA f s).kind := by
      cases oldA f s with
      | set ms c gs c2 => simp only [putAV]; split <;> rfl
      | num u d => rfl
      | txt l => rfl
    refine ⟨fun p a ha => ?_, fun p a ha => ?_⟩
    · rw [hA] at ha
      split at ha
      · cases ha; exact seen_put hF o1
      · exact seen_mono (fine_up hF) (h.seen p a ha)
    · rw [hA] at ha
      split at ha
      · rename_i hp
        cases ha; rw [hkk, o2, hp]
      · exact h.kind p a ha
  · rw [appV_no hE, appF_no hE]; exact h
/-- What a state answers to a shadow that may be applied. -/
theorem app_ready {v : Nat → Int} {f : PK → Option AV} (h : SeenF v f) {s : SH} (h1 : goodS s = true) (h2 : readyB s v = true) : appE v f s = 0 ∨ appE v f s = 2 := by
  have hF := fine_of h1 h2
  obtain ⟨o1, o2⟩ := h.old s
  unfold appE
  rw [if_neg (by rw [h1]; decide), if_neg (by rw [hF.no]; decide), if_neg (by rw [h2]; decide)]
  rcases putAV_err hF o1 o2 with h3 | h3
  · exact .inl h3
  · exact .inr h3.1
structure GX where
  i : Nat
  hs : Nat → Option Obj
  v : Nat → Int
  ms : MPV
  c : Nat
set_option maxHeartbeats 4000000 in
theorem s_StateGapW (h : Nat → Option Obj) (hu : Uni h) (ht : Ten h) (v1 : Value) (L : List SH) (hv1 : RowsIs shcl 14 h v1 L) :
    Ctr Tryz.prog F_rostrumlaw14_StateGap [.raw v1] [.heap h, .heap fun _ => none] (fun x H => x = bv true ∧ ∃ hs, H = [.heap h, .heap hs]) := by
  obtain ⟨la, lc, rfl⟩ := hv1.shape
  obtain ⟨bL, oL, xL, eL, fL, HL⟩ := hv1.pos
  refine i_rostrumlaw14_StateGap.spec follows ?_
  refine VCall.mk [0] (s_awake h hu ht) ⟨rfl, rfl, rfl⟩ ?_
  rintro _ _ ⟨rfl, rfl⟩
  refine And.intro (fun h => absurd h (by simp)) (fun _ => ?_)
  refine And.intro (fun k1 => VRet.mk [0, 1] (bv true) [.heap h, .heap fun _ => none] ⟨rfl, rfl, rfl⟩ ⟨rfl, _, rfl⟩) (fun k1 => ?_)
  have k1 := of_decide_eq_false k1
  have hL25 : L.length ≤ 25 := by omega
  refine VCall.mk [] s_StNew ⟨rfl, rfl, rfl⟩ ?_
  rintro _ _ ⟨rfl, rfl⟩
  refine VLoop.mk GX (fun x => [(0, .raw (.slice la L.length lc)), (3, .ptr 2 0), (4, iv x.i)]) (fun x => SS2 h x.hs x.v x.ms x.c) (fun x => x.i ≤ L.length ∧ StI x.hs x.v x.ms x.c x.i ∧ SeenF x.v (lk x.ms)) (fun x => L.length - x.i) ⟨0, fun _ => none, w0, [], 0⟩ [0, 1, 2, 3]
    ⟨⟨Nat.zero_le _, StI.new _, SeenF.new _ _ rfl⟩, rfl, rfl, rfl⟩ ?_
  rintro ⟨i, hs, v, ms, c⟩ ⟨hi, hI, hSF⟩ g
  simp only at hi hI hSF
  refine And.intro (fun h1 => ?_) (fun h1 => ?_)
  · have h1 : (i : Int) < (L.length : Nat) := of_decide_eq_true h1
    have hil : i < L.length := by omega
    have hwi : IntKind.i64.wrap ((i : Int) + 1) = ((i + 1 : Nat) : Int) := wrap64 (by omega)
    obtain ⟨hla, hh, hcut⟩ := HL (by omega)
    subst hla
    have hni : (0 : Int) ≤ (i : Int) ∧ (i : Int) < (L.length : Nat) := ⟨Int.natCast_nonneg i, h1⟩
    have ci : V.cut xL (oL + (i : Int).toNat * 14) 14 = some (shcl L[i]) := by rw [Int.toNat_natCast]; exact hcut i hil
    generalize L[i] = s at ci
    refine And.intro hni ?_
    refine Exists.intro 0 (Exists.intro xL (Exists.intro eL (Exists.intro fL (And.intro hh (Exists.intro _ (And.intro ci ?_))))))
    refine VCall.mk [] (s_long s) ⟨rfl, rfl, rfl⟩ ?_
    rintro _ _ ⟨rfl, rfl⟩
    refine And.intro (fun hq => VRet.mk [0, 1] (bv true) [.heap h, .heap hs] ⟨rfl, rfl, rfl⟩ ⟨rfl, _, rfl⟩) (fun hq => ?_)
    have hsz := longB_no hq
    refine VCall.mk [2, 3, 1] (s_Bytes hs v ms c i hI (by omega)) ⟨rfl, rfl, rfl⟩ ?_
    rintro _ _ ⟨o1, c1', y1, rfl, rfl, b1⟩
    refine Exists.intro _ (And.intro (b2s_brow b1 (stB_byt v ms)) ?_)
    refine And.intro hni ?_
    refine Exists.intro 0 (Exists.intro xL (Exists.intro eL (Exists.intro fL (And.intro hh (Exists.intro _ (And.intro ci ?_))))))
    refine VCall.mk [0] (s_shadow_Good h hu s (by omega)) ⟨rfl, rfl, rfl⟩ ?_
    rintro _ _ ⟨rfl, rfl⟩
    have hzero : appE v (lk ms) s = 0 → goodS s = true ∧ readyB s v = true := fun k => ⟨(appE_ok k).1, (appE_ok k).2.2.1⟩
    have hrdy := fun a b => app_ready hSF (s := s) a b
    have hA := s_Apply h hu hs v ms c i hI s (by omega)
    have hno : appE v (lk ms) s ≠ 0 → appV v (lk ms) s = v ∧ appF v (lk ms) s = lk ms := fun k => ⟨appV_no k, appF_no k⟩
    have hSF' := hSF.app s
    refine And.intro (fun kg => ?_) (fun kg => ?_)
    · have kg : goodS s = true := kg
      refine And.intro hni ?_
      refine Exists.intro 0 (Exists.intro xL (Exists.intro eL (Exists.intro fL (And.intro hh (Exists.intro _ (And.intro ci ?_))))))
      refine VCall.mk [2, 3] (s_Have v ms c) ⟨rfl, rfl, rfl⟩ ?_
      rintro _ _ ⟨rfl, rfl⟩
      refine And.intro (And.intro hni rfl) (And.intro (Exists.intro 0 (Exists.intro xL (Exists.intro eL (Exists.intro fL (And.intro hh (Exists.intro _ (And.intro ci rfl))))))) ?_)
      refine VCall.mk [] (s_shadow_Ready s v) ⟨rfl, rfl, rfl⟩ ?_
      rintro _ _ ⟨rfl, rfl⟩
      refine And.intro hni ?_
      refine Exists.intro 0 (Exists.intro xL (Exists.intro eL (Exists.intro fL (And.intro hh (Exists.intro _ (And.intro ci ?_))))))
      refine VCall.mk [2, 3, 1, 0] hA ⟨rfl, rfl, rfl⟩ ?_
      rintro _ _ ⟨hs1, ms1, c1, rfl, rfl, hI1, hF1⟩
      have hf1 : lk ms1 = appF v (lk ms) s := funext hF1
      rw [← hf1] at hSF' hno
      generalize appV v (lk ms) s = v' at hI1 hSF' hno
      generalize appE v (lk ms) s = e at hzero hrdy hno
      have hsame : e ≠ 0 → stB v' ms1 = stB v ms := fun k => by
        obtain ⟨k1, k2⟩ := hno k
        rw [k1]; exact stB_congr hI1.km hI.km (fun p => by rw [k2])
      have hBs := s_Bytes hs1 v' ms1 c1 (i + 1) hI1 (by omega)
      refine And.intro (fun kr => ?_) (fun kr => ?_)
      · -- it was not ready
        have kr : readyB s v = false := by simpa using kr
        have he : e ≠ 0 := fun k => by have := (hzero k).2; rw [kr] at this; cases this
        rw [hsame he] at hBs
        refine And.intro (fun ke => ?_) (fun ke => absurd (of_decide_eq_true ke) he)
        refine VCall.mk [2, 3, 1] hBs ⟨rfl, rfl, rfl⟩ ?_
        rintro _ _ ⟨o2, c2', y2, rfl, rfl, b2⟩
        refine Exists.intro _ (And.intro (b2s_brow b2 (stB_byt v ms)) ?_)
        refine And.intro (fun _ => ?_) (fun k => absurd k (by rw [beq_self_eq_true]; decide))
        refine And.intro (fun k => absurd (show readyB s v = true from k) (by rw [kr]; decide)) (fun _ => ?_)
        refine And.intro (fun k => absurd (show readyB s v = true from k) (by rw [kr]; decide)) (fun _ => ?_)
        refine Exists.intro _ (And.intro hwi ?_)
        exact Exists.intro ⟨i + 1, hs1, v', ms1, c1⟩ (Exists.intro [0, 1, 2, 3] (And.intro ⟨⟨hil, hI1, hSF'⟩, by simp only; omega⟩ ⟨rfl, rfl, rfl⟩))
      · have kr : readyB s v = true := by simpa using kr
        have he := hrdy kg kr
        refine And.intro (fun _ => ?_) (fun k => absurd (show readyB s v = false from k) (by rw [kr]; decide))
        refine And.intro (fun ke => ?_) (fun ke => ?_)
        · have ke : ¬ e = 0 := by simpa using ke
          have h2 : e = 2 := he.resolve_left ke
          rw [hsame ke] at hBs
          refine And.intro (fun _ => ?_) (fun k => absurd h2 (by simpa using k))
          refine And.intro (fun _ => ?_) (fun k => absurd (show readyB s v = false from k) (by rw [kr]; decide))
          refine And.intro (fun _ => ?_) (fun k => absurd h2 (of_decide_eq_false k))
          refine VCall.mk [2, 3, 1] hBs ⟨rfl, rfl, rfl⟩ ?_
          rintro _ _ ⟨o2, c2', y2, rfl, rfl, b2⟩
          refine Exists.intro _ (And.intro (b2s_brow b2 (stB_byt v ms)) ?_)
          refine And.intro (fun k => absurd k (by rw [beq_self_eq_true]; decide)) (fun _ => ?_)
          refine Exists.intro _ (And.intro hwi ?_)
          exact Exists.intro ⟨i + 1, hs1, v', ms1, c1⟩ (Exists.intro [0, 1, 2, 3] (And.intro ⟨⟨hil, hI1, hSF'⟩, by simp only; omega⟩ ⟨rfl, rfl, rfl⟩))
        · have ke : e = 0 := by simpa using ke
          refine And.intro (fun _ => ?_) (fun k => absurd (show readyB s v = false from k) (by rw [kr]; decide))
          refine And.intro (fun k => absurd (of_decide_eq_true k) (by rw [ke]; decide)) (fun _ => ?_)
          refine Exists.intro _ (And.intro hwi ?_)
          exact Exists.intro ⟨i + 1, hs1, v', ms1, c1⟩ (Exists.intro [0, 1, 2, 3] (And.intro ⟨⟨hil, hI1, hSF'⟩, by simp only; omega⟩ ⟨rfl, rfl, rfl⟩))
    · have kg : goodS s = false := kg
      refine And.intro rfl (And.intro rfl ?_)
      refine And.intro hni ?_
      refine Exists.intro 0 (Exists.intro xL (Exists.intro eL (Exists.intro fL (And.intro hh (Exists.intro _ (And.intro ci ?_))))))
      refine VCall.mk [2, 3, 1, 0] hA ⟨rfl, rfl, rfl⟩ ?_
      rintro _ _ ⟨hs1, ms1, c1, rfl, rfl, hI1, hF1⟩
      have hf1 : lk ms1 = appF v (lk ms) s := funext hF1
      rw [← hf1] at hSF' hno
      generalize appV v (lk ms) s = v' at hI1 hSF' hno
      generalize appE v (lk ms) s = e at hzero hrdy hno
      have he : e ≠ 0 := fun k => by have := (hzero k).1; rw [kg] at this; cases this
      have hsame : stB v' ms1 = stB v ms := by
        obtain ⟨k1, k2⟩ := hno he
        rw [k1]; exact stB_congr hI1.km hI.km (fun p => by rw [k2])
      have hBs := s_Bytes hs1 v' ms1 c1 (i + 1) hI1 (by omega)
      rw [hsame] at hBs
      refine And.intro (fun ke => ?_) (fun ke => absurd (of_decide_eq_true ke) he)
      refine VCall.mk [2, 3, 1] hBs ⟨rfl, rfl, rfl⟩ ?_
      rintro _ _ ⟨o2, c2', y2, rfl, rfl, b2⟩
      refine Exists.intro _ (And.intro (b2s_brow b2 (stB_byt v ms)) ?_)
      refine And.intro (fun _ => ?_) (fun k => absurd k (by rw [beq_self_eq_true]; decide))
      refine Exists.intro _ (And.intro hwi ?_)
      exact Exists.intro ⟨i + 1, hs1, v', ms1, c1⟩ (Exists.intro [0, 1, 2, 3] (And.intro ⟨⟨hil, hI1, hSF'⟩, by simp only; omega⟩ ⟨rfl, rfl, rfl⟩))
  · exact VRet.mk [0, 1] (bv true) [.heap h, .heap hs] ⟨rfl, rfl, rfl⟩ ⟨rfl, _, rfl⟩
theorem s_StateGap (h : Nat → Option Obj) (hu : Uni h) (ht : Ten h) (v1 : Value) (L : List SH) (hv1 : RowsIs shcl 14 h v1 L) :
    Ctr Tryz.prog F_rostrumlaw14_StateGap [.raw v1] [.heap h] (fun x H => x = bv true ∧ H = [.heap h]) := ctr_own (s_StateGapW h hu ht v1 L hv1)
end Go.Proofs

namespace Go.Proofs
open Go Go.V Go.Lib
set_option maxRecDepth 100000
set_option linter.unusedVariables false

/-! ### What lies behind a face in a heap -/
theorem s_AsSetH (hs : Nat → Option Obj) (fp : List Nat) (v : Value) (ms : MS) (c : Nat) (gs : GM) (c2 : Nat) (hv : ValAt hs fp v (.set ms c gs c2)) : Ctr Tryz.prog F_value_AsSet [.raw v] [.heap hs] (fun x H => ∃ b, fp[0]? = some b ∧ x = .tup [.raw (.pointer (some ⟨b, 0, none⟩)), bv true] ∧ H = [.heap hs]) := by
  obtain ⟨b, h0, rfl⟩ := hv.at'
  refine ctr_open (G := []) (as' := [(AV.set ms c gs c2).sym]) (Ho := (AV.set ms c gs c2).blk) (Post := fun x H => x = .tup [.ptr 0 0, bv true] ∧ H = SO2 ms c gs c2) (by rw [List.append_nil]; exact s_AsSet_S ms c gs c2) fp hs hv.len hv.nd (AV.cm _) (AV.okb _) (by simp) hv.obj ?_ ?_ ?_
  · intro ρ ρ' h1 _
    simp only [valL]
    rw [(AV.set ms c gs c2).val_sym h0 ρ h1]
    simp [V.val]
  · intro _
    simp only [belowL, Bool.and_eq_true]
    exact ⟨(AV.set ms c gs c2).bel_sym _ (by simp), trivial⟩
  · rintro v0 H0 ⟨rfl, rfl⟩
    refine ⟨(AV.set ms c gs c2).blk, [], .tup [.raw (.pointer (some ⟨b, 0, none⟩)), bv true], by rw [List.append_nil]; rfl, rfl, AV.cm _, AV.okb _, by simp, ?_, fun _ => rfl, b, h0, rfl, by rw [updA_same _ _ _ _ hv.obj]⟩
    intro ρ ρ' h1 _
    have : ρ 0 = some b := by rw [h1 0 (by simp [AV.blk]), h0]
    simp [V.val, valL, this]
theorem s_CloneMH (hs : Nat → Option Obj) (b : Nat) (es : List MapEntry) (c : Nat) (hb : hs b = some (.map es.toArray c)) : Ctr Tryz.prog F_maps_Clone_map_api_Dot_string_api_Dot_string [.raw (.map (some b))] [.heap hs] (fun x H => x = .mp 1 ∧ H = [.heap hs, .map es c]) := by
  refine ctr_open (G := []) (as' := [.mp 0]) (Ho := [.map es c]) (Post := fun x H => x = .mp 1 ∧ H = [.map es c, .map es c]) (clone_ctr Tryz.cloneM es c) [b] hs rfl (by simp) (by simp [isCM]) rfl (by simp) ?_ ?_ (fun _ => rfl) ?_
  · intro k b' o hk ho
    cases k with
    | zero => simp at hk ho; subst hk ho; exact hb
    | succ k => simp at hk
  · intro ρ ρ' h1 _
    simp [valL, V.val, h1 0 (by simp)]
  · rintro v0 H0 ⟨rfl, rfl⟩
    refine ⟨[.map es c], [.map es c], .mp 1, rfl, rfl, by simp [isCM], rfl, by simp [plainO], ?_, fun _ => rfl, rfl, ?_⟩
    · intro ρ ρ' _ h2
      have := h2 0
      simp only [List.length_singleton, Nat.add_zero, Nat.zero_add] at this
      simp [V.val, this]
    · rw [updA_same]
      intro k b' o hk ho
      cases k with
      | zero => simp at hk ho; subst hk ho; exact hb
      | succ k => simp at hk
theorem s_CloneGH (hs : Nat → Option Obj) (b : Nat) (es : List MapEntry) (c : Nat) (hb : hs b = some (.map es.toArray c)) : Ctr Tryz.prog F_maps_Clone_map_string_vec_Vec_string_vec_Vec [.raw (.map (some b))] [.heap hs] (fun x H => x = .mp 1 ∧ H = [.heap hs, .map es c]) := by
  refine ctr_open (G := []) (as' := [.mp 0]) (Ho := [.map es c]) (Post := fun x H => x = .mp 1 ∧ H = [.map es c, .map es c]) (clone_ctr Tryz.cloneG es c) [b] hs rfl (by simp) (by simp [isCM]) rfl (by simp) ?_ ?_ (fun _ => rfl) ?_
  · intro k b' o hk ho
    cases k with
    | zero => simp at hk ho; subst hk ho; exact hb
    | succ k => simp at hk
  · intro ρ ρ' h1 _
    simp [valL, V.val, h1 0 (by simp)]
  · rintro v0 H0 ⟨rfl, rfl⟩
    refine ⟨[.map es c], [.map es c], .mp 1, rfl, rfl, by simp [isCM], rfl, by simp [plainO], ?_, fun _ => rfl, rfl, ?_⟩
    · intro ρ ρ' _ h2
      have := h2 0
      simp only [List.length_singleton, Nat.add_zero, Nat.zero_add] at this
      simp [V.val, this]
    · rw [updA_same]
      intro k b' o hk ho
      cases k with
      | zero => simp at hk ho; subst hk ho; exact hb
      | succ k => simp at hk
theorem s_CopyH (hs : Nat → Option Obj) (b0 b1 b2 : Nat) (ms : MS) (c : Nat) (gs : GM) (c2 : Nat) (h0 : hs b0 = some (.cells #[.map (some b1), .map (some b2)] T_orset_Set (0, 0)))
    (h1 : hs b1 = some (.map (ents encD encT ms).toArray c)) (h2 : hs b2 = some (.map (ents encT encV gs).toArray c2)) :
    Ctr Tryz.prog F_orset_Set_Copy [.raw (.pointer (some ⟨b0, 0, none⟩))] [.heap hs] (fun x H => x = .ptr 1 0 ∧ H = [.heap hs, .cells [.mp 2, .mp 3] T_orset_Set, .map (ents encD encT ms) c, .map (ents encT encV gs) c2]) := by
  have hh : hs b0 = some (.cells ([.map (some b1), .map (some b2)] : List Value).toArray T_orset_Set (0, 0)) := h0
  refine i_orset_Set_Copy.spec follows ?_
  refine Exists.intro 0 (Exists.intro [.map (some b1), .map (some b2)] (Exists.intro T_orset_Set (Exists.intro (0, 0) (And.intro hh (Exists.intro _ (And.intro rfl ?_))))))
  refine Exists.intro 0 (Exists.intro [.map (some b1), .map (some b2)] (Exists.intro T_orset_Set (Exists.intro (0, 0) (And.intro hh (Exists.intro _ (And.intro rfl ?_))))))
  refine VCall.mk [0] (s_CloneMH hs b1 _ c h1) ⟨rfl, rfl, rfl⟩ ?_
  rintro _ _ ⟨rfl, rfl⟩
  refine And.intro rfl (And.intro (Exists.intro 0 (Exists.intro [.map (some b1), .map (some b2)] (Exists.intro T_orset_Set (Exists.intro (0, 0) (And.intro hh (Exists.intro _ (And.intro rfl rfl))))))) ?_)
  refine VCall.mk [0] (s_CloneGH hs b2 _ c2 h2) ⟨rfl, rfl, rfl⟩ ?_
  rintro _ _ ⟨rfl, rfl⟩
  exact VRet.mk [0, 3, 1, 2] (.ptr 1 0) [.heap hs, .cells [.mp 2, .mp 3] T_orset_Set, .map (ents encD encT ms) c, .map (ents encT encV gs) c2] ⟨rfl, rfl, rfl⟩ ⟨rfl, rfl⟩
/-- A copy of a set that lies in a heap. -/
theorem set_objs {hs : Nat → Option Obj} {fp : List Nat} {v : Value} {ms : MS} {c : Nat} {gs : GM} {c2 : Nat} (hv : ValAt hs fp v (.set ms c gs c2)) : ∃ b0 b1 b2, fp = [b0, b1, b2] ∧ hs b0 = some (.cells #[.map (some b1), .map (some b2)] T_orset_Set (0, 0)) ∧
    hs b1 = some (.map (ents encD encT ms).toArray c) ∧ hs b2 = some (.map (ents encT encV gs).toArray c2) := by
  have hl := hv.len
  match fp, hl, hv with
  | [b0, b1, b2], _, hv =>
    refine ⟨b0, b1, b2, rfl, ?_, ?_, ?_⟩
    · have := hv.obj 0 b0 _ rfl rfl; rw [this]; simp [objOf, valL, V.val]
    · have := hv.obj 1 b1 _ rfl rfl; rw [this]; rfl
    · have := hv.obj 2 b2 _ rfl rfl; rw [this]; rfl
theorem s_copied_SH (hs : Nat → Option Obj) (fp : List Nat) (v : Value) (ms : MS) (c : Nat) (gs : GM) (c2 : Nat) (hv : ValAt hs fp v (.set ms c gs c2)) :
    Ctr Tryz.prog F_state_copied [.raw v] [.heap hs] (fun x H => x = .ifc T_value_Set (.agg [.ptr 1 0]) ∧ H = [.heap hs, .cells [.mp 2, .mp 3] T_orset_Set, .map (ents encD encT ms) c, .map (ents encT encV gs) c2]) := by
  obtain ⟨b0, b1, b2, hfp, h0, h1, h2⟩ := set_objs hv
  refine i_state_copied.spec follows ?_
  refine VCall.mk [0] (s_AsSetH hs fp v ms c gs c2 hv) ⟨rfl, rfl, rfl⟩ ?_
  rintro _ _ ⟨b, hb, rfl, rfl⟩
  have hb : b = b0 := by rw [hfp] at hb; simpa using hb.symm
  subst hb
  refine And.intro (fun _ => ?_) (fun h => absurd h (by decide))
  refine VCall.mk [0] (s_CopyH hs b b1 b2 ms c gs c2 h0 h1 h2) ⟨rfl, rfl, rfl⟩ ?_
  rintro _ _ ⟨rfl, rfl⟩
  exact VRet.mk [0, 1, 2, 3] (.ifc T_value_Set (.agg [.ptr 1 0])) [.heap hs, .cells [.mp 2, .mp 3] T_orset_Set, .map (ents encD encT ms) c, .map (ents encT encV gs) c2] ⟨rfl, rfl, rfl⟩ ⟨rfl, rfl⟩
theorem s_Get_S (hs : Nat → Option Obj) (v : Nat → Int) (ms : MPV) (c N : Nat) (hI : StI hs v ms c N) (k : Int) (key : ByteArray) (m : MS) (mc : Nat) (gs : GM) (c2 : Nat) (hl : lk ms (k, key) = some (.set m mc gs c2)) :
    Ctr Tryz.prog F_state_State_Get [.ptr 0 0, iv k, .raw (.string key)] (SST v ms c ++ [.heap hs]) (fun x H => x = .tup [.ifc T_value_Set (.agg [.ptr 3 0]), bv true] ∧ H = SST v ms c ++ [.heap hs, .cells [.mp 4, .mp 5] T_orset_Set, .map (ents encD encT m) mc, .map (ents encT encV gs) c2]) := by
  obtain ⟨x, hx, hxa⟩ : ∃ x, MP.get ms (k, key) = some x ∧ x.a = .set m mc gs c2 := by
    unfold lk at hl
    cases hg : MP.get ms (k, key) with
    | none => rw [hg] at hl; cases hl
    | some x => rw [hg] at hl; exact ⟨x, rfl, Option.some.inj hl⟩
  obtain ⟨hat, _, _, _⟩ := hI.get hx
  rw [hxa] at hat
  refine i_state_State_Get.spec follows ?_
  refine Exists.intro (.raw (((MP.get ms (k, key)).map (·.v)).getD .nilIface)) (Exists.intro _ (Exists.intro _ (And.intro (lookP ms (k, key)) (And.intro rfl ?_))))
  rw [hx]
  refine And.intro (fun h => absurd h (by simp)) (fun _ => ?_)
  refine VCall.mk [2] (s_copied_SH hs x.fp x.v m mc gs c2 hat) ⟨rfl, rfl, rfl⟩ ?_
  rintro _ _ ⟨rfl, rfl⟩
  exact VRet.mk [0, 1, 2, 3, 4, 5] (.tup [.ifc T_value_Set (.agg [.ptr 3 0]), bv true]) (SST v ms c ++ [.heap hs, .cells [.mp 4, .mp 5] T_orset_Set, .map (ents encD encT m) mc, .map (ents encT encV gs) c2]) ⟨rfl, rfl, rfl⟩ ⟨rfl, rfl⟩
theorem s_Get_0 (v : Nat → Int) (ms : MPV) (c : Nat) (k : Int) (key : ByteArray) (hl : lk ms (k, key) = none) :
    Ctr Tryz.prog F_state_State_Get [.ptr 0 0, iv k, .raw (.string key)] (SST v ms c) (fun x H => x = .tup [.raw .nilIface, bv false] ∧ H = SST v ms c) := by
  have hx : MP.get ms (k, key) = none := by unfold lk at hl; simpa using hl
  refine i_state_State_Get.spec follows ?_
  refine Exists.intro (.raw (((MP.get ms (k, key)).map (·.v)).getD .nilIface)) (Exists.intro _ (Exists.intro _ (And.intro (lookP ms (k, key)) (And.intro rfl ?_))))
  rw [hx]
  refine And.intro (fun _ => ?_) (fun h => absurd h (by simp))
  exact VRet.mk [0, 1] (.tup [.raw .nilIface, bv false]) (SST v ms c) ⟨rfl, rfl, rfl⟩ ⟨rfl, rfl⟩
abbrev SSTk (k : Nat) (v : Nat → Int) (ms : MPV) (c : Nat) : List SO := [.cells (vcells v ++ [.mp k]) T_state_State, .map (ents encP encVV ms) c]
theorem s_StSame (hs hs' : Nat → Option Obj) (v v' : Nat → Int) (ms ms' : MPV) (c c' N N' : Nat) (hI : StI hs v ms c N) (hI' : StI hs' v' ms' c' N') (hN : N ≤ 100) (hN' : N' ≤ 100) :
    Ctr Tryz.prog F_state_Same [.ptr 0 0, .ptr 3 0] (SST v ms c ++ [.heap hs] ++ SSTk 4 v' ms' c' ++ [.heap hs']) (fun x H => x = bv (decide (stB v ms = stB v' ms')) ∧ H = SST v ms c ++ [.heap hs] ++ SSTk 4 v' ms' c' ++ [.heap hs']) := by
  refine i_state_Same.spec follows ?_
  refine VCall.mk [0, 1, 2] (s_Bytes hs v ms c N hI hN) ⟨rfl, rfl, rfl⟩ ?_
  rintro _ _ ⟨o1, c1, y1, rfl, rfl, b1⟩
  refine VCall.mk [3, 4, 5] (s_Bytes hs' v' ms' c' N' hI' hN') ⟨rfl, rfl, rfl⟩ ?_
  rintro _ _ ⟨o2, c2, y2, rfl, rfl, b2⟩
  refine VCall.mk [6, 7] (s_bytes_Equal _ _ y1 y2 T_uint8 T_uint8 o1 c1 o2 c2 b1 b2 (stB_byt v ms) (stB_byt v' ms')) ⟨rfl, rfl, rfl⟩ ?_
  rintro _ _ ⟨rfl, rfl⟩
  exact VRet.mk [0, 1, 2, 3, 4, 5] (bv (decide (stB v ms = stB v' ms'))) (SST v ms c ++ [.heap hs] ++ SSTk 4 v' ms' c' ++ [.heap hs']) ⟨rfl, rfl, rfl⟩ ⟨rfl, rfl⟩
theorem s_StSame1 (hs : Nat → Option Obj) (v : Nat → Int) (ms : MPV) (c N : Nat) (hI : StI hs v ms c N) (hN : N ≤ 100) :
    Ctr Tryz.prog F_state_Same [.ptr 0 0, .ptr 0 0] (SST v ms c ++ [.heap hs]) (fun x H => x = bv true ∧ H = SST v ms c ++ [.heap hs]) := by
  refine i_state_Same.spec follows ?_
  refine VCall.mk [0, 1, 2] (s_Bytes hs v ms c N hI hN) ⟨rfl, rfl, rfl⟩ ?_
  rintro _ _ ⟨o1, c1, y1, rfl, rfl, b1⟩
  refine VCall.mk [0, 1, 2] (s_Bytes hs v ms c N hI hN) ⟨rfl, rfl, rfl⟩ ?_
  rintro _ _ ⟨o2, c2, y2, rfl, rfl, b2⟩
  refine VCall.mk [3, 4] (s_bytes_Equal _ _ y1 y2 T_uint8 T_uint8 o1 c1 o2 c2 b1 b2 (stB_byt v ms) (stB_byt v ms)) ⟨rfl, rfl, rfl⟩ ?_
  rintro _ _ ⟨rfl, rfl⟩
  exact VRet.mk [0, 1, 2] (bv (decide (stB v ms = stB v ms))) (SST v ms c ++ [.heap hs]) ⟨rfl, rfl, rfl⟩ ⟨by rw [decide_eq_true rfl], rfl⟩
end Go.Proofs

namespace Go.Proofs
open Go Go.V Go.Lib
set_option maxRecDepth 100000
set_option linter.unusedVariables false

/-! ### What chapter 14 says -/
abbrev xx : ByteArray := ByteArray.mk #[120]
abbrev aa : ByteArray := ByteArray.mk #[97]
abbrev tt : ByteArray := ByteArray.mk #[116]
abbrev nn : ByteArray := ByteArray.mk #[]
abbrev s10 : Nat → Int := fun i => if i = 0 then 1 else 0
abbrev s11 : Nat → Int := fun i => if i = 0 then 1 else if i = 1 then 1 else 0
def K1 : SH := ⟨0, 2, s10, 3, kk, nn, 5, 0⟩
def K2 : SH := ⟨0, 0, fun _ => 0, 0, nn, nn, 0, 0⟩
def K3 : SH := ⟨0, 1, fun _ => 0, 1, kk, xx, 0, 0⟩
def K5 : SH := ⟨1, 1, s10, 2, kk, xx, 0, 0⟩
def K6 : SH := ⟨1, 2, s11, 4, aa, tt, 0, 0⟩
theorem goodName_a : goodName aa = true := by decide +kernel
theorem goodK1 : goodS K1 = true := by
  have h1 : isDot 0 2 = true := by decide
  have h2 : vgoodB s10 = true := by decide
  simp only [goodS, K1, h1, h2, goodName_k]; decide +kernel
theorem goodK2 : goodS K2 = false := by
  have h1 : isDot 0 0 = false := by decide
  simp only [goodS, K2, h1]; rfl
theorem goodK3 : goodS K3 = true := by
  have h1 : isDot 0 1 = true := by decide
  have h2 : vgoodB (fun _ => 0) = true := by decide
  simp only [goodS, K3, h1, h2, goodName_k]; decide +kernel
theorem goodK5 : goodS K5 = true := by
  have h1 : isDot 1 1 = true := by decide
  have h2 : vgoodB s10 = true := by decide
  simp only [goodS, K5, h1, h2, goodName_k]; decide +kernel
theorem goodK6 : goodS K6 = true := by
  have h1 : isDot 1 2 = true := by decide
  have h2 : vgoodB s11 = true := by decide
  simp only [goodS, K6, h1, h2, goodName_a]; decide +kernel
abbrev M1 : MS := [((0, 1), xx, 0)]
def G1 : GM := [(xx, vmax vz s10, 0)]
abbrev u2 : Nat → Int := upv w1 1 1
abbrev u3 : Nat → Int := upv u2 1 2
theorem k1 (f : PK → Option AV) : appE w0 f K1 = 8 := by
  unfold appE
  rw [goodK1, show has w0 K1.rep K1.n = false by decide, show readyB K1 w0 = false by decide]; rfl
theorem k2 (f : PK → Option AV) : appE w0 f K2 = 1 := by
  unfold appE
  rw [goodK2]; rfl
theorem k3 (f : PK → Option AV) (hf : f (1, kk) = none) : appE w0 f K3 = 0 ∧ appV w0 f K3 = w1 ∧ appF w0 f K3 = fun p => if p = (1, kk) then some (.set M1 1 [] 0) else f p := by
  have ho : oldA f K3 = .set [] 0 [] 0 := by
    unfold oldA
    rw [show atS K3 = (1, kk) from rfl, hf]; rfl
  have hp : putAV (.set [] 0 [] 0) K3 = (0, .set M1 1 [] 0) := by
    show (addE [] 0 1 xx, AV.set (addM [] 0 0 1 xx) (addC [] 0 0 1 xx) [] 0) = _
    have h0 : addE [] 0 1 xx = 0 := by decide
    unfold addM addC
    rw [h0]; rfl
  have hE : appE w0 f K3 = 0 := by
    unfold appE
    rw [goodK3, show has w0 K3.rep K3.n = false by decide, show readyB K3 w0 = true by decide, ho, hp]; rfl
  refine ⟨hE, by unfold appV; rw [if_pos hE]; rfl, ?_⟩
  funext p
  unfold appF
  rw [ho, hp, show atS K3 = (1, kk) from rfl]
  by_cases h : p = (1, kk)
  · rw [if_pos ⟨hE, h⟩, if_pos h]
  · rw [if_neg (fun k => h k.2), if_neg h]
theorem k4 (f : PK → Option AV) : appE w1 f K3 = 5 := by
  unfold appE
  rw [goodK3, show has w1 K3.rep K3.n = true by decide]; rfl
theorem k5 (f : PK → Option AV) (hf : f (1, kk) = some (.set M1 1 [] 0)) : appE w1 f K5 = 0 ∧ appV w1 f K5 = u2 ∧ appF w1 f K5 = fun p => if p = (1, kk) then some (.set M1 1 G1 1) else f p := by
  have ho : oldA f K5 = .set M1 1 [] 0 := by
    unfold oldA
    rw [show atS K5 = (1, kk) from rfl, hf]; rfl
  have hp : putAV (.set M1 1 [] 0) K5 = (0, .set M1 1 G1 1) := by
    have h0 : remE xx s10 = 0 := by decide
    have h1 : putAV (.set M1 1 [] 0) K5 = (remE xx s10, AV.set M1 1 (remG [] 0 xx s10) (remC [] 0 xx s10)) := by
      unfold putAV
      exact if_neg (show ¬ K5.kind = 1 by decide)
    rw [h1]
    unfold remG remC
    rw [h0]; rfl
  have hE : appE w1 f K5 = 0 := by
    unfold appE
    rw [goodK5, show has w1 K5.rep K5.n = false by decide, show readyB K5 w1 = true by decide, ho, hp]; rfl
  refine ⟨hE, by unfold appV; rw [if_pos hE]; rfl, ?_⟩
  funext p
  unfold appF
  rw [ho, hp, show atS K5 = (1, kk) from rfl]
  by_cases h : p = (1, kk)
  · rw [if_pos ⟨hE, h⟩, if_pos h]
  · rw [if_neg (fun k => h k.2), if_neg h]
theorem k6 (f : PK → Option AV) (hf : f (3, aa) = none) : appE u2 f K6 = 0 ∧ appV u2 f K6 = u3 ∧ appF u2 f K6 = fun p => if p = (3, aa) then some (.txt ⟨true, tt, 0, 1, 2⟩) else f p := by
  have ho : oldA f K6 = .txt L0v := by
    unfold oldA
    rw [show atS K6 = (3, aa) from rfl, hf]; rfl
  have hp : putAV (.txt L0v) K6 = (0, .txt ⟨true, tt, 0, 1, 2⟩) := by
    have hb : ¬ badL tt 0 1 2 := by decide
    have hw : wrL L0v tt 0 1 2 = ((true, 0), ⟨true, tt, 0, 1, 2⟩) := by
      unfold wrL
      rw [if_neg hb, if_neg (fun k => absurd k.1 (by decide)), if_neg (fun k => absurd k.1 (by decide))]
    show ((wrL L0v tt 0 1 2).1.2, AV.txt (wrL L0v tt 0 1 2).2) = _
    rw [hw]
  have hE : appE u2 f K6 = 0 := by
    unfold appE
    rw [goodK6, show has u2 K6.rep K6.n = false by decide, show readyB K6 u2 = true by decide, ho, hp]; rfl
  refine ⟨hE, by unfold appV; rw [if_pos hE]; rfl, ?_⟩
  funext p
  unfold appF
  rw [ho, hp, show atS K6 = (3, aa) from rfl]
  by_cases h : p = (3, aa)
  · rw [if_pos ⟨hE, h⟩, if_pos h]
  · rw [if_neg (fun k => h k.2), if_neg h]
theorem keysOne {ms : MPV} {k : Int} {x : ByteArray} (hk : (ms.map (·.1)).Nodup) (h : ∀ y, (lk ms (k, y)).isSome = true ↔ y = x) : keysT ms k = [x] := by
  have h1 : ∀ y, y ∈ keysT ms k ↔ y = x := fun y => by
    rw [mem_keysT, ← get_mem]
    have := h y
    unfold lk at this
    rw [Option.isSome_map] at this
    exact this
  have h2 : (keysT ms k).Nodup := by
    have hd : ∀ ms : MPV, (ms.map (·.1)).Nodup → ((ms.filter (keyE k)).map (·.1.2)).Nodup := by
      intro ms
      induction ms with
      | nil => intro _; simp
      | cons e ms ih =>
        intro hn
        simp only [List.map_cons, List.nodup_cons] at hn
        by_cases he : keyE k e = true
        · rw [List.filter_cons_of_pos he, List.map_cons, List.nodup_cons]
          refine ⟨fun hm => ?_, ih hn.2⟩
          obtain ⟨e', he', h2⟩ := List.mem_map.1 hm
          have h3 := List.mem_filter.1 he'
          apply hn.1
          refine List.mem_map.2 ⟨e', h3.1, ?_⟩
          have h4 : e'.1.1 = k := of_decide_eq_true h3.2
          have h5 : e.1.1 = k := of_decide_eq_true he
          exact Prod.ext (h4.trans h5.symm) h2
        · rw [List.filter_cons_of_neg he]; exact ih hn.2
    exact (List.mergeSort_perm _ _).nodup_iff.2 (hd ms hk)
  have h3 : (keysT ms k).Perm [x] := (List.perm_ext_iff_of_nodup h2 (by simp)).2 fun y => by rw [h1]; simp
  exact List.perm_singleton.1 h3
theorem show0 : AV.show (.set M1 1 G1 1) = nn := by
  have h1 : M1.filter (liveB G1) = [] := by decide
  show (⟨(join (compact (sortX ((M1.filter (liveB G1)).map txt))) [44]).toArray⟩ : ByteArray) = nn
  have h2 : sortX [] = [] := by simp [sortX]
  have h3 : compact ([] : List (List UInt8)) = [] := rfl
  rw [h1, List.map_nil, h2, h3]; rfl
theorem stB_head (v : Nat → Int) (ms : MPV) : ∃ l, stB v ms = Go.V.numB (2 * (v 0).toNat) ++ l := by
  unfold stB
  simp only [vecB, List.nil_append, List.append_assoc]
  exact ⟨_, rfl⟩
theorem stB_ne (ms : MPV) : stB u3 ms ≠ stB w0 [] := by
  obtain ⟨l, h1⟩ := stB_head u3 ms
  obtain ⟨m, h2⟩ := stB_head w0 []
  rw [h1, h2]
  have e1 : Go.V.numB (2 * (u3 0).toNat) = [2] := by
    rw [show 2 * (u3 0).toNat = 2 by decide, numB_lt (by decide)]; rfl
  have e2 : Go.V.numB (2 * (w0 0).toNat) = [0] := by
    rw [show 2 * (w0 0).toNat = 0 by decide, numB_lt (by decide)]; rfl
  rw [e1, e2]
  intro h; simp at h
set_option maxHeartbeats 8000000 in
theorem s_StateKnownW (h : Nat → Option Obj) (hu : Uni h) (ht : Ten h) : Ctr Tryz.prog F_rostrumlaw14_StateKnown [] [.heap h, .heap fun _ => none, .heap fun _ => none] (fun x H => x = bv true ∧ ∃ hs hs', H = [.heap h, .heap hs, .heap hs']) := by
  refine i_rostrumlaw14_StateKnown.spec follows ?_
  refine VCall.mk [0] (s_awake h hu ht) ⟨rfl, rfl, rfl⟩ ?_
  rintro _ _ ⟨rfl, rfl⟩
  refine And.intro (fun h => absurd h (by simp)) (fun _ => ?_)
  refine VCall.mk [] s_StNew ⟨rfl, rfl, rfl⟩ ?_
  rintro _ _ ⟨rfl, rfl⟩
  -- a gap
  refine VCall.mk [3, 4, 1, 0] (s_Apply h hu (fun _ => none) w0 [] 0 0 (StI.new _) K1 (by decide)) ⟨rfl, rfl, rfl⟩ ?_
  rintro _ _ ⟨hs1, ms1, c1, rfl, rfl, I1, F1⟩
  have q1 := k1 (lk [])
  have v1 : appV w0 (lk []) K1 = w0 := appV_no (by rw [q1]; decide)
  have f1 : lk ms1 = fun _ => none := by
    funext p; rw [F1, appF_no (by rw [q1]; decide)]; rfl
  rw [v1] at I1 ⊢
  rw [q1]
  clear v1 F1
  -- none
  refine VCall.mk [3, 4, 1, 0] (s_Apply h hu hs1 w0 ms1 c1 1 I1 K2 (by decide)) ⟨rfl, rfl, rfl⟩ ?_
  rintro _ _ ⟨hs2, ms2, c2, rfl, rfl, I2, F2⟩
  have q2 := k2 (lk ms1)
  have v2 : appV w0 (lk ms1) K2 = w0 := appV_no (by rw [q2]; decide)
  have f2 : lk ms2 = fun _ => none := by
    funext p; rw [F2, appF_no (by rw [q2]; decide), f1]
  rw [v2] at I2 ⊢
  rw [q2]
  clear v2 F2 I1 f1
  -- added
  refine VCall.mk [3, 4, 1, 0] (s_Apply h hu hs2 w0 ms2 c2 2 I2 K3 (by decide)) ⟨rfl, rfl, rfl⟩ ?_
  rintro _ _ ⟨hs3, ms3, c3, rfl, rfl, I3, F3⟩
  obtain ⟨q3, v3, g3⟩ := k3 (lk ms2) (by rw [f2])
  have f3 : lk ms3 = fun p => if p = (1, kk) then some (.set M1 1 [] 0) else none := by
    funext p; rw [F3, g3, f2]
  rw [v3] at I3 ⊢
  clear v3 F3 I2 f2 g3 q3
  -- again
  refine VCall.mk [3, 4, 1, 0] (s_Apply h hu hs3 w1 ms3 c3 3 I3 K3 (by decide)) ⟨rfl, rfl, rfl⟩ ?_
  rintro _ _ ⟨hs4, ms4, c4, rfl, rfl, I4, F4⟩
  have q4 := k4 (lk ms3)
  have v4 : appV w1 (lk ms3) K3 = w1 := appV_no (by rw [q4]; decide)
  have f4 : lk ms4 = fun p => if p = (1, kk) then some (.set M1 1 [] 0) else none := by
    funext p; rw [F4, appF_no (by rw [q4]; decide), f3]
  rw [v4] at I4 ⊢
  rw [q4]
  clear v4 F4 I3 f3
  -- told
  refine VCall.mk [3, 4, 1] (s_Get_S hs4 w1 ms4 c4 4 I4 1 kk M1 1 [] 0 (by rw [f4]; rfl)) ⟨rfl, rfl, rfl⟩ ?_
  rintro _ _ ⟨rfl, rfl⟩
  refine VCall.mk [3, 4] (s_Get_0 w1 ms4 c4 2 kk (by rw [f4]; rfl)) ⟨rfl, rfl, rfl⟩ ?_
  rintro _ _ ⟨rfl, rfl⟩
  refine VCall.mk [5, 6, 7] (s_AsSet_S M1 1 [] 0) ⟨rfl, rfl, rfl⟩ ?_
  rintro _ _ ⟨rfl, rfl⟩
  refine VCall.mk [5, 6, 7] (s_SAdd M1 1 [] 0 3 9 (ByteArray.mk #[122])) ⟨rfl, rfl, rfl⟩ ?_
  rintro _ _ ⟨rfl, rfl⟩
  -- taken away
  refine VCall.mk [3, 4, 1, 0] (s_Apply h hu hs4 w1 ms4 c4 4 I4 K5 (by decide)) ⟨rfl, rfl, rfl⟩ ?_
  rintro _ _ ⟨hs5, ms5, c5, rfl, rfl, I5, F5⟩
  obtain ⟨q5, v5, g5⟩ := k5 (lk ms4) (by rw [f4]; rfl)
  have f5 : lk ms5 = fun p => if p = (1, kk) then some (.set M1 1 G1 1) else none := by
    funext p; rw [F5, g5, f4]
    by_cases hp : p = (1, kk)
    · simp [hp]
    · simp [hp]
  rw [v5] at I5 ⊢
  clear v5 F5 I4 f4 g5 q5
  have hS5 := s_StShow h ht hs5 u2 ms5 c5 5 I5 (by decide) 1 kk
  have hsh5 : showF (lk ms5) (1, kk) = nn := by unfold showF; rw [f5]; exact show0
  rw [hsh5] at hS5
  refine VCall.mk [3, 4, 1, 0] hS5 ⟨rfl, rfl, rfl⟩ ?_
  rintro _ _ ⟨rfl, rfl⟩
  -- written
  refine VCall.mk [3, 4, 1, 0] (s_Apply h hu hs5 u2 ms5 c5 5 I5 K6 (by decide)) ⟨rfl, rfl, rfl⟩ ?_
  rintro _ _ ⟨hs6, ms6, c6, rfl, rfl, I6, F6⟩
  obtain ⟨q6, v6, g6⟩ := k6 (lk ms5) (by rw [f5]; rfl)
  have f6 : lk ms6 = fun p => if p = (3, aa) then some (.txt ⟨true, tt, 0, 1, 2⟩) else if p = (1, kk) then some (.set M1 1 G1 1) else none := by
    funext p; rw [F6, g6, f5]
  rw [v6] at I6 ⊢
  clear v6 F6 I5 f5 g6 q6 hS5 hsh5
  have hk1 : keysT ms6 1 = [kk] := keysOne I6.km fun y => by rw [f6]; by_cases hy : y = kk <;> simp [hy]
  have hk3 : keysT ms6 3 = [aa] := keysOne I6.km fun y => by rw [f6]; by_cases hy : y = aa <;> simp [hy]
  have hs3 : showF (lk ms6) (3, aa) = tt := by unfold showF; rw [f6]; rfl
  have hs9 : showF (lk ms6) (9, aa) = nn := by unfold showF; rw [f6]; rfl
  refine And.intro (fun _ => ?_) (fun k => absurd (of_decide_eq_false k) (by decide))
  refine And.intro (fun _ => ?_) (fun k => absurd (of_decide_eq_false k) (by decide))
  refine And.intro (fun _ => ?_) (fun k => absurd (of_decide_eq_false k) (by decide))
  refine And.intro (fun _ => ?_) (fun k => absurd k (by decide))
  refine And.intro (fun _ => ?_) (fun k => absurd k (by decide))
  refine And.intro (fun _ => ?_) (fun k => absurd k (by rw [beq_self_eq_true]; decide))
  have hK1 := s_Keys u3 ms6 c6 1 I6.m I6.km (by have := I6.ml; omega) (fun e he => by have := I6.key e he; omega)
  rw [hk1] at hK1
  refine VCall.mk [3, 4] hK1 ⟨rfl, rfl, rfl⟩ ?_
  rintro _ _ ⟨xs, o, cp, rfl, rfl, hr⟩
  refine VCall.mk [8, 9] (s_texts [kk] [kk] xs [.string kk] T_string T_string o cp 0 1 hr ⟨Nat.le_refl _, by simp, rfl⟩ (by decide)) ⟨rfl, rfl, rfl⟩ ?_
  rintro _ _ ⟨rfl, rfl⟩
  refine And.intro (fun _ => ?_) (fun k => absurd (of_decide_eq_false k) (by simp))
  have hK3 := s_Keys u3 ms6 c6 3 I6.m I6.km (by have := I6.ml; omega) (fun e he => by have := I6.key e he; omega)
  rw [hk3] at hK3
  refine VCall.mk [3, 4] hK3 ⟨rfl, rfl, rfl⟩ ?_
  rintro _ _ ⟨xs2, o2, cp2, rfl, rfl, hr2⟩
  refine VCall.mk [10, 11] (s_texts [aa] [aa] xs2 [.string aa] T_string T_string o2 cp2 0 1 hr2 ⟨Nat.le_refl _, by simp, rfl⟩ (by decide)) ⟨rfl, rfl, rfl⟩ ?_
  rintro _ _ ⟨rfl, rfl⟩
  refine And.intro (fun _ => ?_) (fun k => absurd (of_decide_eq_false k) (by simp))
  have hS3 := s_StShow h ht hs6 u3 ms6 c6 6 I6 (by decide) 3 aa
  rw [hs3] at hS3
  refine VCall.mk [3, 4, 1, 0] hS3 ⟨rfl, rfl, rfl⟩ ?_
  rintro _ _ ⟨rfl, rfl⟩
  refine And.intro (fun _ => ?_) (fun k => absurd k (by rw [beq_self_eq_true]; decide))
  have hS9 := s_StShow h ht hs6 u3 ms6 c6 6 I6 (by decide) 9 aa
  rw [hs9] at hS9
  refine VCall.mk [3, 4, 1, 0] hS9 ⟨rfl, rfl, rfl⟩ ?_
  rintro _ _ ⟨rfl, rfl⟩
  refine And.intro (fun _ => ?_) (fun k => absurd k (by rw [beq_self_eq_true]; decide))
  refine VCall.mk [3, 4, 1] (s_StSame1 hs6 u3 ms6 c6 6 I6 (by decide)) ⟨rfl, rfl, rfl⟩ ?_
  rintro _ _ ⟨rfl, rfl⟩
  refine And.intro (fun _ => ?_) (fun k => absurd k (by decide))
  refine VCall.mk [] s_StNew ⟨rfl, rfl, rfl⟩ ?_
  rintro _ _ ⟨rfl, rfl⟩
  refine VCall.mk [3, 4, 1, 12, 13, 2] (s_StSame hs6 (fun _ => none) u3 w0 ms6 [] c6 0 6 0 I6 (StI.new _) (by decide) (by decide)) ⟨rfl, rfl, rfl⟩ ?_
  rintro _ _ ⟨rfl, rfl⟩
  refine VRet.mk [0, 1, 2] (bv (!decide (stB u3 ms6 = stB w0 []))) [.heap h, .heap hs6, .heap fun _ => none] ⟨rfl, rfl, rfl⟩ ⟨?_, _, _, rfl⟩
  rw [decide_eq_false (stB_ne ms6)]; rfl
theorem s_StateKnown (h : Nat → Option Obj) (hu : Uni h) (ht : Ten h) : Ctr Tryz.prog F_rostrumlaw14_StateKnown [] [.heap h] (fun x H => x = bv true ∧ H = [.heap h]) := ctr_own2 (s_StateKnownW h hu ht)
end Go.Proofs

