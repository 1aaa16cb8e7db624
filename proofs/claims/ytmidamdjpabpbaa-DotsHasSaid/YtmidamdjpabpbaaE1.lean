/- Part of the proof that the statement named in the last file holds: lemmas of the prover's own. No conditions. -/
import Derived.Test.YtmidamdjpabpbaaD7
namespace Go.Proofs
open Go Go.V
set_option maxRecDepth 100000
set_option linter.unusedVariables false

/-- Those of a list that may be. -/
def Seen (l : List (Int × Int)) (x : Int × Int) : Prop := isDot x.1 x.2 = true ∧ x ∈ l
structure HX where
  i : Nat
  was : Bool
  nw : Int
  v : Nat → Int
  ms : DM
  c : Nat
def HInv (d : List (Int × Int)) (ask : Int × Int) (x : HX) : Prop :=
  x.i ≤ d.length ∧ Canon x.v x.ms (Seen (d.take x.i)) ∧ MOK x.ms x.c ∧ (x.was = true ↔ Seen (d.take x.i) ask) ∧ x.nw = lenOf x.v x.ms ∧ x.nw ≤ x.i

theorem Canon.congr {v : Nat → Int} {ms : DM} {S S' : Int × Int → Prop} (h : Canon v ms S) (hs : ∀ d, S d ↔ S' d) : Canon v ms S' :=
  ⟨⟨h.lo, h.nd, fun d => (hs d).symm.trans (h.seen d), h.far⟩, h.gap⟩
theorem Canon.len_ms {v : Nat → Int} {ms : DM} {S : Int × Int → Prop} (h : Canon v ms S) : (ms.length : Int) ≤ lenOf v ms := by
  have := (sumN_le h.lo 7 (Nat.le_refl _)).1
  unfold lenOf; omega

theorem HInv.step {d : List (Int × Int)} {ask : Int × Int} {i : Nat} {was : Bool} {nw : Int} {v : Nat → Int} {ms : DM} {c : Nat} (h : HInv d ask ⟨i, was, nw, v, ms, c⟩) (hi : i < d.length) (hd : d.length ≤ 60)
    {a : Bool} {e : Int} {v' : Nat → Int} {ms' : DM} {c' : Nat} (hR : AddR v ms (Seen (d.take i)) d[i] a e v' ms') (hM : MOK ms' c') :
    HInv d ask ⟨i + 1, was || (decide (e = 0) && (decide (d[i].1 = ask.1) && decide (d[i].2 = ask.2))), nw + (if a then 1 else 0), v', ms', c'⟩ := by
  obtain ⟨h1, h2, h3, h4, h5, h6⟩ := h
  simp only at h1 h2 h3 h4 h5 h6
  have ht : d.take (i + 1) = d.take i ++ [d[i]] := (List.take_append_getElem hi).symm
  have hlen := h2.len_ms
  have heq : (decide (d[i].1 = ask.1) && decide (d[i].2 = ask.2)) = true ↔ d[i] = ask := by
    simp [Prod.ext_iff]
  have hS : ∀ x, Seen (d.take (i + 1)) x ↔ ((isDot x.1 x.2 = true ∧ x = d[i]) ∨ Seen (d.take i) x) := by
    intro x
    unfold Seen
    rw [ht, List.mem_append, List.mem_singleton]
    constructor
    · rintro ⟨h1, h2 | h2⟩
      · exact .inr ⟨h1, h2⟩
      · exact .inl ⟨h1, h2⟩
    · rintro (⟨h1, h2⟩ | ⟨h1, h2⟩)
      · exact ⟨h1, .inr h2⟩
      · exact ⟨h1, .inl h2⟩
  rcases hR with ⟨r1, rfl, rfl, rfl, rfl⟩ | ⟨r1, r2, rfl, rfl, rfl, rfl⟩ | ⟨_, _, _, r4, _⟩ | ⟨r1, r2, _, rfl, rfl, r4⟩
  · have hS' : ∀ x, Seen (d.take (i + 1)) x ↔ Seen (d.take i) x := by
      intro x; rw [hS]
      constructor
      · rintro (⟨h1, rfl⟩ | h1)
        · rw [r1] at h1; cases h1
        · exact h1
      · exact .inr
    refine ⟨hi, h2.congr fun x => (hS' x).symm, hM, ?_, by simpa using h5, by simp only; omega⟩
    simp only; rw [hS']; simpa using h4
  · have hS' : ∀ x, Seen (d.take (i + 1)) x ↔ Seen (d.take i) x := by
      intro x; rw [hS]
      constructor
      · rintro (⟨h1, rfl⟩ | h1)
        · exact r2
        · exact h1
      · exact .inr
    refine ⟨hi, h2.congr fun x => (hS' x).symm, hM, ?_, by simpa using h5, by simp only; omega⟩
    simp only
    rw [hS', Bool.or_eq_true, h4]
    simp only [decide_true, Bool.true_and]
    rw [heq]
    constructor
    · rintro (h | rfl)
      · exact h
      · exact r2
    · exact .inl
  · omega
  · have hS' : ∀ x, Seen (d.take (i + 1)) x ↔ (x = d[i] ∨ Seen (d.take i) x) := by
      intro x; rw [hS]
      constructor
      · rintro (⟨h1, rfl⟩ | h1)
        · exact .inl rfl
        · exact .inr h1
      · rintro (rfl | h1)
        · exact .inl ⟨r1, rfl⟩
        · exact .inr h1
    refine ⟨hi, r4.congr fun x => (hS' x).symm, hM, ?_, ?_, ?_⟩
    · simp only
      rw [hS', Bool.or_eq_true, h4]
      simp only [decide_true, Bool.true_and]
      rw [heq]
      constructor
      · rintro (h | rfl)
        · exact .inr h
        · exact .inl rfl
      · rintro (h | h)
        · exact .inr h.symm
        · exact .inl h
    · simp only [if_true]
      rw [h2.len_add r4 r2, h5]
    · simp only [if_true]; omega

theorem mem_more_false {l : List (Int × Int)} {i : Nat} (hi : i < l.length) {a b : Int} (h : false = true ↔ (a, b) ∈ l.take i) : (decide (l[i].1 = a) && decide (l[i].2 = b)) = true ↔ (a, b) ∈ l.take (i + 1) := by
  have hn : ¬ (a, b) ∈ l.take i := fun e => Bool.noConfusion (h.2 e)
  rw [← List.take_append_getElem hi, List.mem_append, List.mem_singleton, Bool.and_eq_true, decide_eq_true_iff, decide_eq_true_iff]
  constructor
  · rintro ⟨h1, h2⟩; right; rw [← h1, ← h2]
  · rintro (h1 | h1)
    · exact (hn h1).elim
    · rw [← h1]; exact ⟨rfl, rfl⟩
theorem mem_more_true {l : List (Int × Int)} {i : Nat} (hi : i < l.length) {x : Int × Int} (h : true = true ↔ x ∈ l.take i) : true = true ↔ x ∈ l.take (i + 1) := by
  rw [← List.take_append_getElem hi, List.mem_append]
  exact ⟨fun _ => .inl (h.1 rfl), fun _ => rfl⟩

set_option maxHeartbeats 4000000 in
theorem s_DotsHas (d : List (Int × Int)) (a b : Int) (xs : List Value) (o c : Nat) (te : TypeId) (hr0 : 0 < d.length → Row xs o d.length d) : Ctr Try.prog F_rostrumlaw8_DotsHas [.sl 0 o d.length c, .agg (dcells a b)] [.ro xs te] (fun x H => x = bv true ∧ H = [.ro xs te]) := by
  refine i_rostrumlaw8_DotsHas.spec follows ?_
  refine VCall.mk [] s_awake ⟨rfl, rfl, rfl⟩ ?_
  rintro _ _ ⟨rfl, rfl⟩
  refine And.intro (fun h => absurd h (by decide)) (fun _ => ?_)
  refine And.intro (fun h => ?_) (fun h => ?_)
  · exact VRet.mk [0] (bv _) [.ro xs te] ⟨rfl, rfl, rfl⟩ ⟨rfl, rfl⟩
  have h60 : d.length ≤ 60 := by have := of_decide_eq_false h; omega
  refine VCall.mk [] s_dots_New ⟨rfl, rfl, rfl⟩ ?_
  rintro _ _ ⟨rfl, rfl⟩
  refine VLoop.mk HX (fun x => [(0, .sl 0 o d.length c), (3, .ptr 1 0), (5, .ptr 3 0), (6, bv x.was), (7, iv x.nw), (8, iv x.i)])
    (fun x => [.ro xs te, .cells (dcells a b) T_api_Dot, dmap x.ms x.c, .cells (dcs x.v 2) T_dots_Dots])
    (HInv d (a, b)) (fun x => d.length - x.i) ⟨0, false, 0, fun _ => 0, [], 0⟩ [0, 1, 2, 3] ⟨?_, rfl, rfl, rfl⟩ ?_
  · refine ⟨Nat.zero_le _, Canon.zero.congr fun x => ?_, MOK.nil 0, ?_, by simp [lenOf, sumN], by simp⟩
    · simp [Seen]
    · simp [Seen]
  rintro ⟨i, was, nw, v, ms, c'⟩ hinv g
  have hC := hinv.2.1
  have hMm := hinv.2.2.1
  have hnw : nw = lenOf v ms := hinv.2.2.2.2.1
  have hnwi : nw ≤ (i : Int) := hinv.2.2.2.2.2
  have hlm := hC.len_ms
  simp only at hC hMm hlm
  refine And.intro (fun h => ?_) (fun h => ?_)
  · have h := of_decide_eq_true h
    have hil : i < d.length := by simp only at h; omega
    have hr : Row xs o d.length d := hr0 (by omega)
    have hrl : o + d.length * 2 ≤ xs.length := hr.2.1
    have hwi : IntKind.i64.wrap ((i : Int) + 1) = ((i + 1 : Nat) : Int) := wrap64 (by omega)
    have hwn : IntKind.i64.wrap (nw + 1) = nw + 1 := wrap64 (by omega)
    have hmu : d.length - (i + 1) < d.length - i := by omega
    refine And.intro ⟨Int.natCast_nonneg i, h, hrl⟩ ?_
    refine Exists.intro _ (And.intro (hr.cut i hil) ?_)
    refine VCall.mk [3, 2] (s_Add v ms c' _ hC hMm d[i].1 d[i].2) ⟨rfl, rfl, rfl⟩ ?_
    rintro _ _ ⟨ra, re, v', ms', c'', rfl, rfl, hR, hM'⟩
    have hstep := hinv.step hil h60 hR hM'
    refine And.intro (fun h1 => ?_) (fun h1 => ?_)
    · have h1 : was = false := h1
      subst h1
      refine And.intro (fun h2 => ?_) (fun h2 => ?_)
      · have h2 := of_decide_eq_true h2
        subst h2
        refine And.intro ⟨Int.natCast_nonneg i, h, hrl⟩ ?_
        refine Exists.intro _ (And.intro (hr.cut i hil) ?_)
        refine And.intro (fun h3 => ?_) (fun h3 => ?_)
        · subst h3
          refine Exists.intro _ (And.intro hwn ?_)
          refine Exists.intro _ (And.intro hwi ?_)
          refine Exists.intro ⟨i + 1, (decide (d[i].1 = a) && decide (d[i].2 = b)), nw + 1, v', ms', c''⟩ (Exists.intro [0, 1, 2, 3] (And.intro ⟨by simpa using hstep, hmu⟩ ⟨rfl, rfl, rfl⟩))
        · subst h3
          refine Exists.intro _ (And.intro hwi ?_)
          refine Exists.intro ⟨i + 1, (decide (d[i].1 = a) && decide (d[i].2 = b)), nw, v', ms', c''⟩ (Exists.intro [0, 1, 2, 3] (And.intro ⟨by simpa using hstep, hmu⟩ ⟨rfl, rfl, rfl⟩))
      · have h2 : ¬ re = 0 := of_decide_eq_false h2
        refine And.intro (fun h3 => ?_) (fun h3 => ?_)
        · subst h3
          refine Exists.intro _ (And.intro hwn ?_)
          refine Exists.intro _ (And.intro hwi ?_)
          refine Exists.intro ⟨i + 1, false, nw + 1, v', ms', c''⟩ (Exists.intro [0, 1, 2, 3] (And.intro ⟨by simpa [h2] using hstep, hmu⟩ ⟨rfl, rfl, rfl⟩))
        · subst h3
          refine Exists.intro _ (And.intro hwi ?_)
          refine Exists.intro ⟨i + 1, false, nw, v', ms', c''⟩ (Exists.intro [0, 1, 2, 3] (And.intro ⟨by simpa [h2] using hstep, hmu⟩ ⟨rfl, rfl, rfl⟩))
    · have h1 : was = true := h1
      subst h1
      refine And.intro (fun h3 => ?_) (fun h3 => ?_)
      · subst h3
        refine Exists.intro _ (And.intro hwn ?_)
        refine Exists.intro _ (And.intro hwi ?_)
        refine Exists.intro ⟨i + 1, true, nw + 1, v', ms', c''⟩ (Exists.intro [0, 1, 2, 3] (And.intro ⟨by simpa using hstep, hmu⟩ ⟨rfl, rfl, rfl⟩))
      · subst h3
        refine Exists.intro _ (And.intro hwi ?_)
        refine Exists.intro ⟨i + 1, true, nw, v', ms', c''⟩ (Exists.intro [0, 1, 2, 3] (And.intro ⟨by simpa using hstep, hmu⟩ ⟨rfl, rfl, rfl⟩))
  · have h := of_decide_eq_false h
    have hid : i = d.length := by have := hinv.1; simp only at this h; omega
    subst hid
    have hml : ms.length ≤ 1000000 := by omega
    have hsum := sumN_le hC.lo
    have hwas : was = true ↔ Seen d (a, b) := by have := hinv.2.2.2.1; simpa using this
    rw [List.take_length] at hC
    clear hinv
    refine VCall.mk [3, 2] (s_Loose v ms c' hMm hml) ⟨rfl, rfl, rfl⟩ ?_
    rintro _ _ ⟨d1, o1, c1, ys1, rfl, rfl, hp1, hq1, hr1⟩
    have hs1 : Srt ms d1 := ⟨hp1, hq1⟩
    have hl1 : d1.length = ms.length := by have := hp1.length_eq; simpa [keysOf] using this
    refine VCall.mk [3, 2] (s_dots_Dots_Vec v ms c') ⟨rfl, rfl, rfl⟩ ?_
    rintro _ _ ⟨rfl, rfl⟩
    refine VLoop.mk (Nat × Int) (fun x => [(3, .ptr 1 0), (5, .ptr 3 0), (6, bv was), (7, iv nw), (11, iv x.2), (12, .ptr 4 0), (13, iv x.1)])
      (fun x => [.ro xs te, .cells (dcells a b) T_api_Dot, dmap ms c', .cells (dcs v 2) T_dots_Dots, .cells (vcells v) 33])
      (fun x => x.1 ≤ 7 ∧ x.2 = ms.length + sumN v x.1) (fun x => 7 - x.1) (0, (d1.length : Int)) [0, 1, 2, 3, 5] ⟨⟨Nat.zero_le _, by simp [sumN, hl1]⟩, rfl, rfl, rfl⟩ ?_
    rintro ⟨i, n⟩ ⟨hi, hn⟩ g
    simp only at hi hn
    have hs := hsum i hi
    refine And.intro (fun h => ?_) (fun h => ?_)
    · have h := of_decide_eq_true h
      have hi7 : 0 ≤ (i : Int) ∧ (i : Int) < 7 := ⟨by omega, h⟩
      have := hC.lo i (by simp only at h; omega)
      have hw : IntKind.i64.wrap ((i : Int) + 1) = ((i + 1 : Nat) : Int) := wrap64 (by omega)
      have hw2 : IntKind.i64.wrap (n + v (i : Int).toNat) = (ms.length : Int) + sumN v (i + 1) := by
        rw [wrap64 (by rw [Int.toNat_natCast]; omega), Int.toNat_natCast, sumN]; omega
      have hg : (vcells v)[0 + (i : Int).toNat * 1]? = some (iv (v (i : Int).toNat)) := by have := vcells_get' v hi7 []; simpa using this
      refine And.intro hi7 (Exists.intro _ (And.intro hg ?_))
      refine Exists.intro _ (And.intro hw2 ?_)
      refine Exists.intro _ (And.intro hw ?_)
      refine Exists.intro (i + 1, (ms.length : Int) + sumN v (i + 1)) (Exists.intro [0, 1, 2, 3, 4] (And.intro ⟨⟨by simp only at h ⊢; omega, rfl⟩, by simp only at h ⊢; omega⟩ ⟨rfl, rfl, rfl⟩))
    · have h := of_decide_eq_false h
      have hn7 : n = lenOf v ms := by
        have : i = 7 := by simp only at h; omega
        subst this; rw [hn]; rfl
      subst hn7
      refine VLoop.mk (Nat × Bool) (fun x => [(3, .ptr 1 0), (5, .ptr 3 0), (6, bv was), (7, iv nw), (11, iv (lenOf v ms)), (12, .ptr 4 0), (14, bv x.2), (15, iv x.1)])
        (fun x => [.ro xs te, .cells (dcells a b) T_api_Dot, dmap ms c', .cells (dcs v 2) T_dots_Dots, .cells (vcells v) 33])
        (fun x => x.1 ≤ d1.length ∧ (x.2 = true ↔ (a, b) ∈ d1.take x.1)) (fun x => d1.length - x.1) (0, false) [0, 1, 2, 3, 4] ⟨⟨Nat.zero_le _, by simp⟩, rfl, rfl, rfl⟩ ?_
      rintro ⟨i, lo⟩ ⟨hi, hlo⟩ g
      simp only at hi hlo
      refine VCall.mk [3, 2] (s_Loose v ms c' hMm hml) ⟨rfl, rfl, rfl⟩ ?_
      rintro _ _ ⟨d2, o2, c2, ys2, rfl, rfl, hp2, hq2, hr2⟩
      obtain rfl : d2 = d1 := Srt.uniq ⟨hp2, hq2⟩ hs1
      refine And.intro (fun h => ?_) (fun h => ?_)
      · have h := of_decide_eq_true h
        have hil : i < d2.length := by simp only at h; omega
        have hw : IntKind.i64.wrap ((i : Int) + 1) = ((i + 1 : Nat) : Int) := wrap64 (by omega)
        have ht : d2.take (i + 1) = d2.take i ++ [d2[i]] := (List.take_append_getElem hil).symm
        have hmu : d2.length - (i + 1) < d2.length - i := by omega
        refine And.intro (fun h1 => ?_) (fun h1 => ?_)
        · have h1 : lo = false := h1
          subst h1
          refine VCall.mk [3, 2] (s_Loose v ms c' hMm hml) ⟨rfl, rfl, rfl⟩ ?_
          rintro _ _ ⟨d3, o3, c3, ys3, rfl, rfl, hp3, hq3, hr3⟩
          obtain rfl : d3 = d2 := Srt.uniq ⟨hp3, hq3⟩ hs1
          have hrl3 : o3 + d3.length * 2 ≤ ys3.length := by have := hr3.1; have := hr3.2.1; omega
          refine And.intro rfl ?_
          refine And.intro ⟨Int.natCast_nonneg i, h, hrl3⟩ ?_
          refine Exists.intro _ (And.intro (hr3.cut i hil) ?_)
          refine Exists.intro _ (And.intro hw ?_)
          refine Exists.intro (i + 1, (decide (d3[i].1 = a) && decide (d3[i].2 = b))) (Exists.intro [0, 1, 2, 3, 4] (And.intro ⟨⟨hil, ?_⟩, hmu⟩ ⟨rfl, rfl, rfl⟩))
          exact mem_more_false hil hlo
        · have h1 : lo = true := h1
          subst h1
          refine And.intro rfl ?_
          refine Exists.intro _ (And.intro hw ?_)
          exact Exists.intro (i + 1, true) (Exists.intro [0, 1, 2, 3, 4] (And.intro ⟨⟨hil, mem_more_true hil hlo⟩, hmu⟩ ⟨rfl, rfl, rfl⟩))
      · have h := of_decide_eq_false h
        have hlo : lo = inM ms (a, b) := by
          have : i = d2.length := by simp only at h; omega
          subst this
          rw [List.take_length, hs1.mem] at hlo
          exact Bool.eq_iff_iff.2 hlo
        have hW : was = (has v a b || inM ms (a, b)) := by
          rw [Bool.eq_iff_iff, hwas, hC.seen, Bool.or_eq_true]
        subst hlo hW
        refine VCall.mk [3, 2] (s_dots_Dots_Has v ms c' a b) ⟨rfl, rfl, rfl⟩ ?_
        rintro _ _ ⟨rfl, rfl⟩
        refine And.intro (fun _ => ?_) (fun h => absurd h (by simp))
        refine VCall.mk [] (s_vec_Has v a b) ⟨rfl, rfl, rfl⟩ ?_
        rintro _ _ ⟨rfl, rfl⟩
        refine And.intro (fun h8 => ?_) (fun h8 => ?_)
        · refine And.intro (fun _ => ?_) (fun h9 => absurd h9 (by simp [h8]))
          refine VCall.mk [3, 2] (s_Len v ms c' hC.lo hml) ⟨rfl, rfl, rfl⟩ ?_
          rintro _ _ ⟨rfl, rfl⟩
          refine And.intro (fun _ => ?_) (fun h9 => absurd h9 (by simp))
          refine VRet.mk [0] (bv _) [.ro xs te] ⟨rfl, rfl, rfl⟩ ⟨?_, rfl⟩
          show bv _ = bv _
          simp [hnw]
        · refine And.intro (fun _ => ?_) (fun h9 => absurd h9 (by simp [h8]))
          refine VCall.mk [3, 2] (s_Len v ms c' hC.lo hml) ⟨rfl, rfl, rfl⟩ ?_
          rintro _ _ ⟨rfl, rfl⟩
          refine And.intro (fun _ => ?_) (fun h9 => absurd h9 (by simp))
          refine VRet.mk [0] (bv _) [.ro xs te] ⟨rfl, rfl, rfl⟩ ⟨?_, rfl⟩
          show bv _ = bv _
          simp [hnw]
end Go.Proofs
