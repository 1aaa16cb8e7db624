/- Part of the proof that the statement named in the last file holds: lemmas of the prover's own. No conditions. -/
import Derived.Test.YtmidamdjpabpbaaDD
import Derived.Test.YtmidamdjpabpbaaDA
import Derived.Test.YtmidamdjpabpbaaVD
import Derived.Test.YtmidamdjpabpbaaRows
namespace Go.Proofs
open Go Go.V
set_option maxRecDepth 100000
set_option linter.unusedVariables false

structure QX where
  i : Nat
  v : Nat → Int
  ms : DM
  cm : Nat
  w : Nat → Int
  l : List (Int × Int)
  ys : List Value
  o : Nat
  c : Nat

set_option maxHeartbeats 4000000 in
theorem s_DotsPlays (l m : List (Int × Int)) (a b : Int) (xs xs2 : List Value) (o o2 c c2 : Nat) (te te2 : TypeId) (hr0 : 0 < l.length → Row xs o l.length l) (hr2 : 0 < m.length → Row xs2 o2 m.length m) :
    Ctr Try.prog F_rostrumlaw8_DotsPlays [.sl 0 o l.length c, .sl 1 o2 m.length c2, .agg (dcells a b)] [.ro xs te, .ro xs2 te2] (fun x H => x = bv true ∧ H = [.ro xs te, .ro xs2 te2]) := by
  refine i_rostrumlaw8_DotsPlays.spec follows ?_
  refine VCall.mk [] s_awake ⟨rfl, rfl, rfl⟩ ?_
  rintro _ _ ⟨rfl, rfl⟩
  refine And.intro (fun h => absurd h (by decide)) (fun _ => ?_)
  refine And.intro (fun h1 => ?_) (fun h1 => ?_)
  rotate_left 1
  · exact VRet.mk [0, 1] (bv _) [.ro xs te, .ro xs2 te2] ⟨rfl, rfl, rfl⟩ ⟨rfl, rfl⟩
  refine And.intro (fun h => ?_) (fun h2 => ?_)
  · exact VRet.mk [0, 1] (bv _) [.ro xs te, .ro xs2 te2] ⟨rfl, rfl, rfl⟩ ⟨rfl, rfl⟩
  have hl60 : l.length ≤ 60 := by have := of_decide_eq_false h1; omega
  have hm60 : m.length ≤ 60 := by have := of_decide_eq_false h2; omega
  refine VCall.mk [] s_dots_New ⟨rfl, rfl, rfl⟩ ?_
  rintro _ _ ⟨rfl, rfl⟩
  refine VCall.mk [] s_dots_New ⟨rfl, rfl, rfl⟩ ?_
  rintro _ _ ⟨rfl, rfl⟩
  refine VLoop.nil T_api_Dot [] [(7, 7)] ⟨rfl, rfl⟩ ?_
  refine VLoop.nil T_api_Dot [] [(8, 7)] ⟨rfl, rfl⟩ ?_
  refine VLoop.mk QX (fun x => [(0, .sl 0 o l.length c), (1, .sl 1 o2 m.length c2), (5, .ptr 2 0), (7, .ptr 4 0), (8, .ptr 6 0), (9, .ptr 7 0), (10, .ptr 8 0), (11, iv x.i)])
    (fun x => [.ro xs te, .ro xs2 te2, .cells (dcells a b) T_api_Dot, dmap x.ms x.cm, .cells (dcs x.v 3) T_dots_Dots, dmap [] 0, .cells (dcs (fun _ => 0) 5) T_dots_Dots, .cells (rcs x.w 9 x.o x.l.length x.c) T_rostrumref7_Dots, .cells (rcs (fun _ => 0) 10 0 0 0) T_rostrumref7_Dots, .arr x.ys T_api_Dot, .arr [] T_api_Dot])
    (fun x => x.i ≤ l.length ∧ Canon x.v x.ms (Seen (l.take x.i)) ∧ MOK x.ms x.cm ∧ RC x.w x.l (Seen (l.take x.i)) ∧ Row x.ys x.o x.c x.l)
    (fun x => l.length - x.i) ⟨0, fun _ => 0, [], 0, fun _ => 0, [], [], 0, 0⟩ [0, 1, 2, 3, 4, 5, 6, 7, 8, 9, 10]
    ⟨⟨Nat.zero_le _, canon_start _, MOK.nil 0, ⟨canon_start _, List.Pairwise.nil⟩, row_nil⟩, rfl, rfl, rfl⟩ ?_
  rintro ⟨i, v, ms, cm, w, k, ys, o3, c3⟩ ⟨hi, hC, hM, hR, hRow⟩ g
  simp only at hi hC hM hR hRow
  have hbk := hR.can.len_list (L := l.take i) (fun d hd => hd.2)
  have hbk2 := hR.can.len_ms
  rw [mkD_len] at hbk2
  have hkl : k.length ≤ i := by simp only [List.length_take] at hbk; omega
  refine And.intro (fun h => ?_) (fun h => ?_)
  · have h := of_decide_eq_true h
    have hil : i < l.length := by simp only at h; omega
    have hr : Row xs o l.length l := hr0 (by omega)
    have hmu : l.length - (i + 1) < l.length - i := by omega
    refine And.intro ⟨Int.natCast_nonneg i, h, hr.2.1⟩ ?_
    refine Exists.intro _ (And.intro (hr.cut i hil) ?_)
    refine VCall.mk [4, 3] (s_Add v ms cm _ hC hM l[i].1 l[i].2) ⟨rfl, rfl, rfl⟩ ?_
    rintro _ _ ⟨ra, re, v', ms', cm', rfl, rfl, hA, hM'⟩
    refine And.intro ⟨Int.natCast_nonneg i, h, hr.2.1⟩ ?_
    refine Exists.intro _ (And.intro (hr.cut i hil) ?_)
    refine VCall.mk [7, 9] (s_ref_Add w k _ hR l[i].1 l[i].2 ys o3 c3 T_api_Dot hRow (by omega)) ⟨rfl, rfl, rfl⟩ ?_
    rintro _ _ ⟨rb, rf, w', k', rfl, hB, hU, hkl', hcase⟩
    have hC' := hC.addL hil (by omega) hA
    have hR' : RC w' k' (Seen (l.take (i + 1))) := ⟨hR.can.addL hil (by omega) hB, hU⟩
    obtain ⟨e1, e2, e3⟩ := hC.uniq hR.can (fun _ => Iff.rfl)
    have hlen : ms.length = (mkD k).length := by have := e3.length_eq; simpa [keysOf] using this
    obtain ⟨rfl, rfl⟩ := hA.det hB (fun hd => e1 _ (by have := isDot_rep hd; omega)) hlen
    obtain ⟨u1, _, u3⟩ := hC'.uniq hR'.can (fun _ => Iff.rfl)
    have hml' : ms'.length = k'.length := by have := u3.length_eq; rw [keysOf_mkD] at this; simpa [keysOf] using this
    rcases hcase with ⟨rfl, rfl, rfl⟩ | ⟨o4, c4, ys4, rfl, hRow4⟩
    · refine And.intro (fun _ => ?_) (fun h => absurd h (by simp))
      refine And.intro (fun _ => ?_) (fun h => absurd h (by simp))
      refine VCall.mk [4, 3] (s_dots_Dots_Vec v' ms' cm') ⟨rfl, rfl, rfl⟩ ?_
      rintro _ _ ⟨rfl, rfl⟩
      refine And.intro rfl (And.intro rfl ?_)
      refine And.intro (fun _ => ?_) (fun h => absurd h (by rw [neq7 u1]; decide))
      refine VCall.mk [4, 3] (s_Loose v' ms' cm' hM' (by omega)) ⟨rfl, rfl, rfl⟩ ?_
      rintro _ _ ⟨d, o5, c5, ys5, rfl, rfl, hp, hq, hr5⟩
      obtain ⟨_, rfl, hlenEq⟩ := same_rows hC' hR' ⟨hp, hq⟩
      refine And.intro rfl (And.intro rfl ?_)
      refine VCall.mk [11, 9] (s_SameDots _ _ ys5 ys o5 o3 c5 c3 T_api_Dot T_api_Dot hr5 hRow (by omega) (by omega)) ⟨rfl, rfl, rfl⟩ ?_
      rintro _ _ ⟨rfl, rfl⟩
      refine And.intro (fun _ => ?_) (fun h => absurd h (by simp))
      refine VCall.mk [4, 3] (s_Len v' ms' cm' hC'.lo (by omega)) ⟨rfl, rfl, rfl⟩ ?_
      rintro _ _ ⟨rfl, rfl⟩
      refine VCall.mk [7, 9] (s_ref_Len _ ys o3 _ c3 T_api_Dot hR'.can.lo (by omega)) ⟨rfl, rfl, rfl⟩ ?_
      rintro _ _ ⟨rfl, rfl⟩
      refine And.intro (fun _ => ?_) (fun h => absurd h (by rw [hlenEq]; simp))
      refine VCall.mk [4, 3] (s_dots_Dots_Has v' ms' cm' a b) ⟨rfl, rfl, rfl⟩ ?_
      rintro _ _ ⟨rfl, rfl⟩
      refine And.intro rfl ?_
      refine VCall.mk [7, 9] (s_ref_DotsHas _ _ a b ys o3 c3 T_api_Dot hRow (by omega)) ⟨rfl, rfl, rfl⟩ ?_
      rintro _ _ ⟨rfl, rfl⟩
      refine And.intro (fun h => absurd h (by rw [same_has hC' hR' a b]; simp)) (fun _ => ?_)
      have hw : IntKind.i64.wrap ((i : Int) + 1) = ((i + 1 : Nat) : Int) := wrap64 (by omega)
      refine Exists.intro _ (And.intro hw ?_)
      exact Exists.intro ⟨i + 1, v', ms', cm', _, _, ys, o3, c3⟩ (Exists.intro [0, 1, 2, 3, 4, 5, 6, 7, 8, 9, 10] (And.intro ⟨⟨hil, hC', hM', hR', hRow⟩, hmu⟩ ⟨rfl, rfl, rfl⟩))
    · refine And.intro (fun _ => ?_) (fun h => absurd h (by simp))
      refine And.intro (fun _ => ?_) (fun h => absurd h (by simp))
      refine VCall.mk [4, 3] (s_dots_Dots_Vec v' ms' cm') ⟨rfl, rfl, rfl⟩ ?_
      rintro _ _ ⟨rfl, rfl⟩
      refine And.intro rfl (And.intro rfl ?_)
      refine And.intro (fun _ => ?_) (fun h => absurd h (by rw [neq7 u1]; decide))
      refine VCall.mk [4, 3] (s_Loose v' ms' cm' hM' (by omega)) ⟨rfl, rfl, rfl⟩ ?_
      rintro _ _ ⟨d, o5, c5, ys5, rfl, rfl, hp, hq, hr5⟩
      obtain ⟨_, rfl, hlenEq⟩ := same_rows hC' hR' ⟨hp, hq⟩
      refine And.intro rfl (And.intro rfl ?_)
      refine VCall.mk [12, 11] (s_SameDots _ _ ys5 ys4 o5 o4 c5 c4 T_api_Dot T_api_Dot hr5 hRow4 (by omega) (by omega)) ⟨rfl, rfl, rfl⟩ ?_
      rintro _ _ ⟨rfl, rfl⟩
      refine And.intro (fun _ => ?_) (fun h => absurd h (by simp))
      refine VCall.mk [4, 3] (s_Len v' ms' cm' hC'.lo (by omega)) ⟨rfl, rfl, rfl⟩ ?_
      rintro _ _ ⟨rfl, rfl⟩
      refine VCall.mk [7, 11] (s_ref_Len _ ys4 o4 _ c4 T_api_Dot hR'.can.lo (by omega)) ⟨rfl, rfl, rfl⟩ ?_
      rintro _ _ ⟨rfl, rfl⟩
      refine And.intro (fun _ => ?_) (fun h => absurd h (by rw [hlenEq]; simp))
      refine VCall.mk [4, 3] (s_dots_Dots_Has v' ms' cm' a b) ⟨rfl, rfl, rfl⟩ ?_
      rintro _ _ ⟨rfl, rfl⟩
      refine And.intro rfl ?_
      refine VCall.mk [7, 11] (s_ref_DotsHas _ _ a b ys4 o4 c4 T_api_Dot hRow4 (by omega)) ⟨rfl, rfl, rfl⟩ ?_
      rintro _ _ ⟨rfl, rfl⟩
      refine And.intro (fun h => absurd h (by rw [same_has hC' hR' a b]; simp)) (fun _ => ?_)
      have hw : IntKind.i64.wrap ((i : Int) + 1) = ((i + 1 : Nat) : Int) := wrap64 (by omega)
      refine Exists.intro _ (And.intro hw ?_)
      exact Exists.intro ⟨i + 1, v', ms', cm', _, _, ys4, o4, c4⟩ (Exists.intro [0, 1, 2, 3, 4, 5, 6, 7, 8, 11, 10] (And.intro ⟨⟨hil, hC', hM', hR', hRow4⟩, hmu⟩ ⟨rfl, rfl, rfl⟩))
  · have h := of_decide_eq_false h
    have hil : i = l.length := by simp only at h; omega
    subst hil
    rw [List.take_length] at hC hR
    refine VLoop.mk QX (fun x => [(1, .sl 1 o2 m.length c2), (5, .ptr 2 0), (7, .ptr 4 0), (8, .ptr 6 0), (9, .ptr 7 0), (10, .ptr 8 0), (16, iv x.i)])
      (fun x => [.ro xs te, .ro xs2 te2, .cells (dcells a b) T_api_Dot, dmap ms cm, .cells (dcs v 3) T_dots_Dots, dmap x.ms x.cm, .cells (dcs x.v 5) T_dots_Dots, .cells (rcs w 9 o3 k.length c3) T_rostrumref7_Dots, .cells (rcs x.w 10 x.o x.l.length x.c) T_rostrumref7_Dots, .arr ys T_api_Dot, .arr x.ys T_api_Dot])
      (fun x => x.i ≤ m.length ∧ Canon x.v x.ms (Seen (m.take x.i)) ∧ MOK x.ms x.cm ∧ RC x.w x.l (Seen (m.take x.i)) ∧ Row x.ys x.o x.c x.l)
      (fun x => m.length - x.i) ⟨0, fun _ => 0, [], 0, fun _ => 0, [], [], 0, 0⟩ [0, 1, 2, 3, 4, 5, 6, 7, 8, 9, 10]
      ⟨⟨Nat.zero_le _, canon_start _, MOK.nil 0, ⟨canon_start _, List.Pairwise.nil⟩, row_nil⟩, rfl, rfl, rfl⟩ ?_
    rintro ⟨i, v2, ms2, cm2, w2, k2, ys2, o4, c4⟩ ⟨hi, hC2, hM2, hR2, hRow2⟩ g
    simp only at hi hC2 hM2 hR2 hRow2
    have hb3 := hR2.can.len_list (L := m.take i) (fun d hd => hd.2)
    have hb4 := hR2.can.len_ms
    rw [mkD_len] at hb4
    have hkl2 : k2.length ≤ i := by simp only [List.length_take] at hb3; omega
    refine And.intro (fun h => ?_) (fun h => ?_)
    · have h := of_decide_eq_true h
      have hil : i < m.length := by simp only at h; omega
      have hr : Row xs2 o2 m.length m := hr2 (by omega)
      have hmu : m.length - (i + 1) < m.length - i := by omega
      refine And.intro ⟨Int.natCast_nonneg i, h, hr.2.1⟩ ?_
      refine Exists.intro _ (And.intro (hr.cut i hil) ?_)
      refine VCall.mk [6, 5] (s_Add v2 ms2 cm2 _ hC2 hM2 m[i].1 m[i].2) ⟨rfl, rfl, rfl⟩ ?_
      rintro _ _ ⟨ra, re, v', ms', cm', rfl, rfl, hA, hM'⟩
      refine And.intro ⟨Int.natCast_nonneg i, h, hr.2.1⟩ ?_
      refine Exists.intro _ (And.intro (hr.cut i hil) ?_)
      refine VCall.mk [8, 10] (s_ref_Add w2 k2 _ hR2 m[i].1 m[i].2 ys2 o4 c4 T_api_Dot hRow2 (by omega)) ⟨rfl, rfl, rfl⟩ ?_
      rintro _ _ ⟨rb, rf, w', k', rfl, hB, hU, hkl', hcase⟩
      have hC' := hC2.addL hil (by omega) hA
      have hR' : RC w' k' (Seen (m.take (i + 1))) := ⟨hR2.can.addL hil (by omega) hB, hU⟩
      have hw : IntKind.i64.wrap ((i : Int) + 1) = ((i + 1 : Nat) : Int) := wrap64 (by omega)
      rcases hcase with ⟨rfl, rfl, rfl⟩ | ⟨o5, c5, ys5, rfl, hRow5⟩
      · refine Exists.intro _ (And.intro hw ?_)
        exact Exists.intro ⟨i + 1, v', ms', cm', _, _, ys2, o4, c4⟩ (Exists.intro [0, 1, 2, 3, 4, 5, 6, 7, 8, 9, 10] (And.intro ⟨⟨hil, hC', hM', hR', hRow2⟩, hmu⟩ ⟨rfl, rfl, rfl⟩))
      · refine Exists.intro _ (And.intro hw ?_)
        exact Exists.intro ⟨i + 1, v', ms', cm', _, _, ys5, o5, c5⟩ (Exists.intro [0, 1, 2, 3, 4, 5, 6, 7, 8, 9, 11] (And.intro ⟨⟨hil, hC', hM', hR', hRow5⟩, hmu⟩ ⟨rfl, rfl, rfl⟩))
    · have h := of_decide_eq_false h
      have hil : i = m.length := by simp only at h; omega
      subst hil
      rw [List.take_length] at hC2 hR2
      have q1 := hC.len_ms
      have q2 := hC.len_list (L := l) (fun d hd => hd.2)
      have q3 := hC2.len_ms
      have q4 := hC2.len_list (L := m) (fun d hd => hd.2)
      have hbig : ∀ {v : Nat → Int} {ms : DM}, Canon v ms (fun x => Seen l x ∨ Seen m x) → ms.length ≤ 120 := by
        intro v ms hc
        have h1 := hc.len_list (L := l ++ m) (fun d hd => by
          rcases hd with hd | hd
          · exact List.mem_append.2 (.inl hd.2)
          · exact List.mem_append.2 (.inr hd.2))
        have h2 := hc.len_ms
        rw [List.length_append] at h1; omega
      refine VCall.mk [4, 3, 6, 5] (s_Merge v v2 ms ms2 cm cm2 _ _ hC hC2 hM hM2 (by omega) (by omega)) ⟨rfl, rfl, rfl⟩ ?_
      rintro _ _ ⟨v', ms', cm', hC', hM', hcase⟩
      have hs' := hbig hC'
      rcases hcase with ⟨hb, _⟩ | ⟨_, rfl, rfl⟩
      · omega
      refine VCall.mk [7, 9, 8, 10] (s_ref_DMerge w w2 k k2 _ _ hR hR2 ys ys2 o3 o4 c3 c4 T_api_Dot T_api_Dot hRow hRow2 (by omega) (by omega)) ⟨rfl, rfl, rfl⟩ ?_
      rintro _ _ ⟨w', k', hR', hcase⟩
      have hs2 := hbig hR'.can
      rw [mkD_len] at hs2
      rcases hcase with ⟨hb, _⟩ | ⟨_, rfl, o5, c5, ys5, rfl, hRow5⟩
      · omega
      refine And.intro (fun _ => ?_) (fun h => absurd h (by decide))
      refine VCall.nil T_uint8 [1] [] ⟨rfl, rfl⟩ (VCall.mk [4, 11, 13] (s_dots_Put v' ms' cm' _ hC' hM' (by omega) [] [] T_uint8 0 0 brow_nil (by simp)) ⟨rfl, rfl, rfl⟩ ?_)
      rintro _ _ ⟨d, hs, o6, c6, ys6, rfl, rfl, hB6⟩
      obtain ⟨u1, rfl, _⟩ := same_rows hC' hR' hs
      have hby := putB_byte hC'.lo (hs.isDot hC') (by omega)
      have hpe := putB_congr u1 d
      refine Exists.intro (strOf (putB v' d)) (And.intro (brow_text hB6 hby) ?_)
      refine VCall.nil T_uint8 [1] [] ⟨rfl, rfl⟩ (VCall.mk [7, 12, 15] (s_ref_Put w' d _ hR' ys5 T_api_Dot o5 c5 hRow5 (by omega) [] [] T_uint8 0 0 brow_nil (by simp)) ⟨rfl, rfl, rfl⟩ ?_)
      rintro _ _ ⟨o7, c7, ys7, rfl, rfl, hB7⟩
      refine And.intro (Exists.intro _ (And.intro (brow_text hB6 hby) rfl)) ?_
      refine Exists.intro (strOf (putB w' d)) (And.intro (brow_text hB7 (by rw [List.nil_append, ← hpe]; exact hby)) ?_)
      refine And.intro (fun _ => ?_) (fun h => absurd h (by rw [hpe]; simp))
      refine VCall.mk [4, 11] (s_dots_Dots_Has v' ms' cm' a b) ⟨rfl, rfl, rfl⟩ ?_
      rintro _ _ ⟨rfl, rfl⟩
      refine And.intro rfl ?_
      refine VCall.mk [7, 12] (s_ref_DotsHas w' d a b ys5 o5 c5 T_api_Dot hRow5 (by omega)) ⟨rfl, rfl, rfl⟩ ?_
      rintro _ _ ⟨rfl, rfl⟩
      refine VRet.mk [0, 1] (bv _) [.ro xs te, .ro xs2 te2] ⟨rfl, rfl, rfl⟩ ⟨?_, rfl⟩
      show bv _ = bv _
      rw [same_has hC' hR' a b]; simp
end Go.Proofs

namespace Go.Proofs.Ytmidamdjpabpbaa
open Go.ChangeShapes Go.WideShapes Go.ChangeAt Go.RowKit Go.V Go.Joins
set_option maxRecDepth 100000

theorem own : ownKnob Try.prog.godebug = none := by kernel_rfl
theorem laidOut : laidOutB Try.prog = true := by kernel_rfl

/-- A slice of dots that came in. -/
theorem open_dots {H : Type} {enc : TypeId × Value → H} {W : World} {base : Nat} {a : Option Addr} {len cap : Nat} {d : DataW H} {p : List MemPlace}
    (hval : Value.okWide Try.prog W .any base T_sl_api_Dot (.slice a len cap)) (h : DataW.Trod enc Try.prog W 0 (fun _ => true) true T_sl_api_Dot (.slice a len cap) d p) :
    ∃ (ds : List (Int × Int)) (xs : List Value) (te : TypeId) (o : Nat) (bo : Option Nat), ds.length = len ∧ roOK W bo xs te ∧ bo.map (fun b => (⟨b, o, none⟩ : Addr)) = a ∧ len ≤ cap ∧
      (∀ x ∈ ds, (Lit.int .i64 x.1).wf = true ∧ (Lit.int .i64 x.2).wf = true) ∧ (0 < ds.length → Row xs o ds.length ds) := by
  obtain ⟨ds, xs, te, o, bo, h1, h2, h3, h4, h5, h6⟩ := open_pairs (k0 := .i64) (k1 := .i64) Try.underlying22 Try.underlying24 (by kernel_rfl) rfl rfl (by kernel_rfl) (by kernel_rfl) Try.underlying3 Try.underlying2 hval h
  exact ⟨ds, xs, te, o, bo, h1, h2, h3, h4, h5, fun hp => ⟨Nat.le_refl _, h6 hp⟩⟩

end Go.Proofs.Ytmidamdjpabpbaa

namespace Go.Proofs.Ytmidamdjpabpbaa
open Go.ChangeShapes Go.WideShapes Go.ChangeAt Go.RowKit Go.V Go.Joins
set_option maxRecDepth 100000

theorem dotsPlays_lifted (os : Os) (started : os.Started) (H : Type) (enc : TypeId × Value → H) :
    ReturnsInHanded {} Try.checked os 5 .any (Rows.dotsPlaysSpec.pre6 enc Try.prog Try.f5 Rows.dotsPlaysRow.domain false) (Rows.dotsPlaysSpec.post enc Try.prog Try.f5 false true false false) := by
  refine returnsInHanded_of_change (C := Try.checked) own started (by kernel_rfl) Try.func5
    (ChangeSpec.witness6 (enc := enc) (C := Try.checked) false ⟨#[], #[.slice none 0 0, .slice none 0 0, .agg #[.int .i64 0, .int .i64 0]], []⟩ 8 (by kernel_rfl) (by kernel_rfl) (by kernel_rfl) (by kernel_rfl)) ?_
  intro W base args ds gs before hval0 hW hcnd _
  have hval : ∀ (j : Nat) t v, Try.f5.params[j]? = some t → args[j]? = some v → Value.okWide Try.prog W .any base t v := hval0
  have hW' := hW
  obtain ⟨p, q, hA0, hV, rfl, hfz, hnd⟩ := hW
  have hA : DataW.TrodAll enc Try.prog W 0 (fun _ => true) true Try.f5.params.toList args.toList ds p := hA0
  rw [Try.params5] at hA hval
  obtain ⟨v0, vs0, d0, ds0, p0, q0, hargs, rfl, rfl, h0, r0⟩ := trodAll_cons hA
  obtain ⟨v1, vs1, d1, ds1, p1, q1, rfl, rfl, rfl, h1, r1⟩ := trodAll_cons r0
  obtain ⟨v2, vs2, d2, ds2, p2, q2, rfl, rfl, rfl, h2, r2⟩ := trodAll_cons r1
  obtain ⟨rfl, rfl, rfl⟩ := trodAll_nil r2
  obtain rfl : args = #[v0, v1, v2] := by cases args; simp_all
  obtain ⟨rfl, rfl⟩ := trodVars_none hV
  have k0 := h0
  have lt0 : ∀ x ∈ p0, x.block < W.heap.size := by obtain ⟨m, hm⟩ := k0; exact DataW.trod_lt m _ _ _ hm
  obtain ⟨a0, len0, cap0, rfl⟩ := okWide_slice Try.underlying22 (hval 0 22 v0 rfl rfl)
  obtain ⟨l0, xs0, te0, o0, bo0, rfl, hro0, rfl, hlc0, hwf0, hrow0⟩ := open_dots (hval 0 22 _ rfl rfl) h0
  have k1 := h1
  have lt1 : ∀ x ∈ p1, x.block < W.heap.size := by obtain ⟨m, hm⟩ := k1; exact DataW.trod_lt m _ _ _ hm
  obtain ⟨a1, len1, cap1, rfl⟩ := okWide_slice Try.underlying22 (hval 1 22 v1 rfl rfl)
  obtain ⟨l1, xs1, te1, o1, bo1, rfl, hro1, rfl, hlc1, hwf1, hrow1⟩ := open_dots (hval 1 22 _ rfl rfl) h1
  have k2 := h2
  have lt2 : ∀ x ∈ p2, x.block < W.heap.size := by obtain ⟨m, hm⟩ := k2; exact DataW.trod_lt m _ _ _ hm
  obtain ⟨c20, c21, y20, y21, m2, rfl, rfl, rfl, hy20, hy21⟩ := open_agg2 Try.underlying24 (by kernel_rfl) (by kernel_rfl) (hval 2 24 v2 rfl rfl) h2
  obtain ⟨a2, e20, rfl, wa2⟩ := DataW.trod_int Try.underlying3 hy20
  obtain ⟨b2, e21, rfl, wb2⟩ := DataW.trod_int Try.underlying2 hy21
  simp only [List.cons.injEq, and_true] at e20 e21
  subst e20 e21
  clear hA0 hval0
  refine Calls.mono (ctr_below (s_DotsPlays l0 l1 a2 b2 xs0 xs1 o0 o1 cap0 cap1 te0 te1 hrow0 hrow1) W (fun k => match k with | 0 => bo0 | 1 => bo1 | _ => none) ?_ rfl rfl (r := .bool true) ?_) fun e W' ⟨he, bel⟩ => ?_
  · intro k so hk
    match k with
    | 0 => cases hk; exact ⟨rfl, hro0⟩
    | 1 => cases hk; exact ⟨rfl, hro1⟩
    | k + 2 => simp at hk
  · rintro v H' ρ' ⟨rfl, _⟩; rfl
  subst he
  exact ⟨_, rfl, _, _, _, [], _, [], hW', trodAll_mk1 (shut_bool Try.underlying4 _), (trodAll_cons_mk (Below.trod laidOut (by kernel_rfl) (of_decide_eq_true (by kernel_rfl)) k0 bel lt0) (trodAll_cons_mk (Below.trod laidOut (by kernel_rfl) (of_decide_eq_true (by kernel_rfl)) k1 bel lt1) (trodAll_cons_mk (Below.trod laidOut (by kernel_rfl) (of_decide_eq_true (by kernel_rfl)) k2 bel lt2) trodAll_mk0))), rfl, bel.frame _, fun h => by cases h⟩

theorem dotsPlays_holds : Rows.DotsPlaysSaid :=
  OpenClaim.holds_of_wide 5 Try.f5 rfl rfl rfl rfl rfl rfl rfl ⟨rfl, rfl, rfl, rfl, rfl⟩ rfl rfl rfl rfl rfl (by kernel_rfl) Try.func5 (by kernel_rfl)
    (of_decide_eq_true (by kernel_rfl)) (by unfold Func.isWrapper; first | (rw [if_pos (by decide +kernel)]; kernel_rfl) | (rw [if_neg (by decide +kernel)]; exact ⟨rfl, rfl⟩))
    (fun os started H enc _ => dotsPlays_lifted os started H enc)
end Go.Proofs.Ytmidamdjpabpbaa

