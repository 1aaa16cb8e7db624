/- Part of the proof that the statement named in the last file holds: lemmas of the prover's own. No conditions. -/
import Derived.Test.YtmidamdjpabpbaaDF
import Derived.Test.YtmidamdjpabpbaaDA
import Derived.Test.YtmidamdjpabpbaaVD
import Derived.Test.YtmidamdjpabpbaaRows
namespace Go.Proofs
open Go Go.V
set_option maxRecDepth 100000
set_option linter.unusedVariables false

structure DBX where
  i : Nat
  v : Nat → Int
  ms : DM
  cm : Nat
theorem end_same {L : List Int} {k : Nat} (h : k ≤ L.length) : (!false && decide ((L.drop k).length = 0)) = (!false && decide (k = L.length)) := by
  have : (L.drop k).length = 0 ↔ k = L.length := by rw [List.length_drop]; omega
  simp only [this]
theorem putB_len60 {v : Nat → Int} {d : List (Int × Int)} (hv : ∀ r, r < 7 → 0 ≤ v r ∧ v r ≤ 1099511627776) (hd : ∀ x ∈ d, isDot x.1 x.2 = true) (hl : d.length ≤ 60) : (putB v d).length ≤ 10000000 := by
  have h1 := vecB_len hv 7 (Nat.le_refl _)
  have h2 := rowB_len hd
  have h3 := numB_len10 (u := 2 * d.length) (by omega)
  simp only [putB, List.length_append]; omega
theorem getD_again {v : Nat → Int} {ms : DM} {S : Int × Int → Prop} {d : List (Int × Int)} (hC : Canon v ms S) (hs : Srt ms d) (hl : d.length ≤ 60) : ∃ v', getD (putB v d) = some (v', d, []) ∧ ∀ i, i < 7 → v' i = v i := by
  have h := getD_putB (v := v) (ds := d) hC.lo ?_ (fun x hx => ⟨hs.isDot hC x hx, hC.gap x ((hs.mem x).1 hx)⟩) (by omega) []
  · rw [List.append_nil] at h; exact h
  · have hn : d.Nodup := hs.1.nodup_iff.2 hC.nd
    refine List.Pairwise.imp₂ (R := fun a b => ¬ cmpD b a < 0) (S := fun a b => a ≠ b) ?_ hs.2 hn
    intro a b h1 h2
    rw [cmpD_lt] at *
    have : ¬ (a.1 = b.1 ∧ a.2 = b.2) := fun e => h2 (Prod.ext e.1 e.2)
    omega
theorem Srt.eqM {ms ms3 : DM} {d : List (Int × Int)} (hs : Srt ms d) (hK : (ms3.map (·.1)).Nodup) (hA : ∀ x, inM ms3 x = true ↔ x ∈ d) (hn : (keysOf ms).Nodup) : EqM ms ms3 := by
  refine ⟨?_, fun x hx => (hA x).2 ((hs.mem x).2 hx)⟩
  have : (keysOf ms3).Perm d := (List.perm_ext_iff_of_nodup hK (hs.1.nodup_iff.2 hn)).2 fun x => by rw [show x ∈ ms3.map (·.1) ↔ inM ms3 x = true from mem_keysOf, hA]
  have h1 := this.length_eq
  have h2 := hs.len
  simp only [keysOf, List.length_map] at h1; omega

set_option maxHeartbeats 4000000 in
theorem s_DotsBytes (L : List Int) (l : List (Int × Int)) (xs xs2 : List Value) (o o2 c c2 : Nat) (te te2 : TypeId) (hL : 0 < L.length → o + L.length ≤ xs.length) (hx : (xs.drop o).take L.length = L.map (Value.int .u8)) (hby : ∀ b ∈ L, 0 ≤ b ∧ b < 256) (hr2 : 0 < l.length → Row xs2 o2 l.length l) :
    Ctr Try.prog F_rostrumlaw8_DotsBytes [.sl 0 o L.length c, .sl 1 o2 l.length c2] [.ro xs te, .ro xs2 te2] (fun x H => x = bv true ∧ H = [.ro xs te, .ro xs2 te2]) := by
  refine i_rostrumlaw8_DotsBytes.spec follows ?_
  refine VCall.mk [] s_awake ⟨rfl, rfl, rfl⟩ ?_
  rintro _ _ ⟨rfl, rfl⟩
  refine And.intro (fun h => absurd h (by decide)) (fun _ => ?_)
  refine And.intro (fun h1 => ?_) (fun h1 => ?_)
  rotate_left 1
  · exact VRet.mk [0, 1] (bv _) [.ro xs te, .ro xs2 te2] ⟨rfl, rfl, rfl⟩ ⟨rfl, rfl⟩
  refine And.intro (fun h => ?_) (fun h2 => ?_)
  · exact VRet.mk [0, 1] (bv _) [.ro xs te, .ro xs2 te2] ⟨rfl, rfl, rfl⟩ ⟨rfl, rfl⟩
  have hL3 : L.length ≤ 300 := by have := of_decide_eq_false h1; omega
  have hl60 : l.length ≤ 60 := by have := of_decide_eq_false h2; omega
  refine VCall.mk [0] (s_ReadRo L xs te o c hL hx (by omega)) ⟨rfl, rfl, rfl⟩ ?_
  rintro _ _ ⟨o3, c3, ys3, rfl, rfl, hB3⟩
  refine VCall.mk [3, 2] (s_Get L o3 c3 ys3 T_uint8 hB3 hby) ⟨rfl, rfl, rfl⟩ ?_
  rintro _ _ (⟨v, ds, l3, hg, rfl, o4, c4, ms4, cm4, rfl, hB4, hS4, hM4, hK4, hA4⟩ | ⟨hg, rfl, hLeft⟩)
  · refine VCall.mk [4, 0] (s_ref_GetDots L o c xs te hL hx hby (by omega)) ⟨rfl, rfl, rfl⟩ ?_
    rintro _ _ (⟨w, es, k, hg2, hk, rfl, o5, c5, ys5, rfl, hRow5⟩ | ⟨hg2, _⟩)
    rotate_left 1
    · rw [hg] at hg2; cases hg2
    rw [hg] at hg2
    simp only [Option.some.injEq, Prod.mk.injEq] at hg2
    obtain ⟨rfl, rfl, rfl⟩ := hg2
    have hOK := getD_ok hg
    have hC4 := hOK.canon hK4 hA4
    have hR4 := hOK.rc
    have hml4 : ms4.length ≤ 100000 := by
      have := nodup_len hK4 (m := ds) (fun x hx => (hA4 x).1 (mem_keysOf.1 hx))
      have := hOK.len
      simp only [List.length_map] at *; omega
    refine And.intro (fun _ => ?_) (fun h => absurd h (by decide))
    refine VCall.nil T_uint8 [1] [] ⟨rfl, rfl⟩ (VCall.mk [6, 5, 9] (s_dots_Put v ms4 cm4 _ hC4 hM4 hml4 [] [] T_uint8 0 0 brow_nil (by simp)) ⟨rfl, rfl, rfl⟩ ?_)
    rintro _ _ ⟨d, hs, o6, c6, ys6, rfl, rfl, hB6⟩
    obtain ⟨_, rfl, _⟩ := same_rows hC4 hR4 hs
    have hbyP := putB_byte hC4.lo (hs.isDot hC4) (by have := hOK.len; omega)
    refine Exists.intro (strOf (putB v d)) (And.intro (brow_text hB6 hbyP) ?_)
    refine VCall.nil T_uint8 [1] [] ⟨rfl, rfl⟩ (VCall.mk [7, 8, 11] (s_ref_Put v d _ hR4 ys5 T_api_Dot o5 c5 hRow5 (by have := hOK.len; omega) [] [] T_uint8 0 0 brow_nil (by simp)) ⟨rfl, rfl, rfl⟩ ?_)
    rintro _ _ ⟨o7, c7, ys7, rfl, rfl, hB7⟩
    refine And.intro (Exists.intro _ (And.intro (brow_text hB6 hbyP) rfl)) ?_
    refine Exists.intro (strOf (putB v d)) (And.intro (brow_text hB7 hbyP) ?_)
    refine And.intro (fun _ => ?_) (fun h => absurd h (by simp))
    refine VCall.mk [3, 2] (s_End o4 (L.drop k).length c4 false ys3 T_uint8) ⟨rfl, rfl, rfl⟩ ?_
    rintro _ _ ⟨rfl, rfl⟩
    refine VCall.mk [4, 0] (s_ref_End o L.length c k false xs te) ⟨rfl, rfl, rfl⟩ ?_
    rintro _ _ ⟨rfl, rfl⟩
    refine And.intro (fun h => absurd h (by rw [end_same hk]; simp)) (fun _ => ?_)
    clear hC4 hR4 hs hbyP hB6 hB7 hml4 hOK hRow5
    refine VCall.mk [] s_dots_New ⟨rfl, rfl, rfl⟩ ?_
    rintro _ _ ⟨rfl, rfl⟩
    refine VLoop.mk DBX (fun x => [(1, .sl 1 o2 l.length c2), (9, .ptr 3 0), (10, iv x.i)])
      (fun x => [.ro xs te, .ro xs2 te2, dmap x.ms x.cm, .cells (dcs x.v 2) T_dots_Dots])
      (fun x => x.i ≤ l.length ∧ Canon x.v x.ms (Seen (l.take x.i)) ∧ MOK x.ms x.cm) (fun x => l.length - x.i)
      ⟨0, fun _ => 0, [], 0⟩ [0, 1, 13, 14] ⟨⟨Nat.zero_le _, canon_start _, MOK.nil 0⟩, rfl, rfl, rfl⟩ ?_
    rintro ⟨i, v, ms, cm⟩ ⟨hi, hC, hM⟩ g
    simp only at hi hC hM
    refine And.intro (fun h => ?_) (fun h => ?_)
    · have h := of_decide_eq_true h
      have hil : i < l.length := by simp only at h; omega
      have hr : Row xs2 o2 l.length l := hr2 (by omega)
      refine And.intro ⟨Int.natCast_nonneg i, h, hr.2.1⟩ ?_
      refine Exists.intro _ (And.intro (hr.cut i hil) ?_)
      refine VCall.mk [3, 2] (s_Add v ms cm _ hC hM l[i].1 l[i].2) ⟨rfl, rfl, rfl⟩ ?_
      rintro _ _ ⟨ra, re, v', ms', cm', rfl, rfl, hA, hM'⟩
      have hw : IntKind.i64.wrap ((i : Int) + 1) = ((i + 1 : Nat) : Int) := wrap64 (by omega)
      refine Exists.intro _ (And.intro hw ?_)
      exact Exists.intro ⟨i + 1, v', ms', cm'⟩ (Exists.intro [0, 1, 2, 3] (And.intro ⟨⟨hil, hC.addL hil (by omega) hA, hM'⟩, by simp only; omega⟩ ⟨rfl, rfl, rfl⟩))
    have h := of_decide_eq_false h
    have hil : i = l.length := by simp only at h; omega
    subst hil
    rw [List.take_length] at hC
    have hml : ms.length ≤ 60 := by
      have h2 := hC.len_list (L := l) (fun d hd => hd.2)
      have h3 := hC.len_ms
      omega
    refine VCall.nil T_uint8 [1] [] ⟨rfl, rfl⟩ (VCall.mk [3, 2, 4] (s_dots_Put v ms cm _ hC hM (by omega) [] [] T_uint8 0 0 brow_nil (by simp)) ⟨rfl, rfl, rfl⟩ ?_)
    rintro _ _ ⟨d, hs, oA, cA, ysA, rfl, rfl, hBA⟩
    have hdl : d.length ≤ 60 := by have := hs.len; omega
    have hbyA := putB_byte hC.lo (hs.isDot hC) (by omega)
    rw [List.nil_append] at hBA
    refine VCall.mk [5] (s_Read (putB v d) ysA T_uint8 oA cA hBA (putB_len60 hC.lo (hs.isDot hC) hdl)) ⟨rfl, rfl, rfl⟩ ?_
    rintro _ _ ⟨oB, cB, ysB, rfl, rfl, hBB⟩
    obtain ⟨vz, hgz, hvz⟩ := getD_again hC hs hdl
    refine VCall.mk [7, 6] (s_Get (putB v d) oB cB ysB T_uint8 hBB hbyA) ⟨rfl, rfl, rfl⟩ ?_
    rintro _ _ (⟨v3, es3, l3, hg3, rfl, oC, cC, ms3, cm3, rfl, hBC, _, hM3, hK3, hA3⟩ | ⟨hg3, _⟩)
    rotate_left 1
    · rw [hgz] at hg3; cases hg3
    rw [hgz] at hg3
    simp only [Option.some.injEq, Prod.mk.injEq] at hg3
    obtain ⟨rfl, rfl, rfl⟩ := hg3
    refine VCall.mk [3, 2, 9, 8] (s_Same _ _ _ ms3 cm cm3 hM) ⟨rfl, rfl, rfl⟩ ?_
    rintro _ _ ⟨b, rfl, hb, rfl⟩
    obtain rfl : b = true := hb.2 ⟨fun i hi => (hvz i hi).symm, hs.eqM hK3 hA3 hC.nd⟩
    refine And.intro (fun _ => ?_) (fun h => absurd h (by decide))
    refine VCall.mk [7, 6] (s_End oC ([] : List Int).length cC false ysB T_uint8) ⟨rfl, rfl, rfl⟩ ?_
    rintro _ _ ⟨rfl, rfl⟩
    exact VRet.mk [0, 1] (bv _) [.ro xs te, .ro xs2 te2] ⟨rfl, rfl, rfl⟩ ⟨rfl, rfl⟩
  · rcases hLeft with ⟨oa, na, ca, ba, rfl⟩ | rfl
    · refine VCall.mk [4, 0] (s_ref_GetDots L o c xs te hL hx hby (by omega)) ⟨rfl, rfl, rfl⟩ ?_
      rintro _ _ (⟨w, es, k, hg2, _⟩ | ⟨_, rfl, aa, rfl⟩)
      · rw [hg] at hg2; cases hg2
      refine And.intro (fun _ => ?_) (fun h => absurd h (by decide))
      refine And.intro rfl ?_
      refine VCall.mk [] s_dots_New ⟨rfl, rfl, rfl⟩ ?_
      rintro _ _ ⟨rfl, rfl⟩
      refine VLoop.mk DBX (fun x => [(1, .sl 1 o2 l.length c2), (9, .ptr 3 0), (10, iv x.i)])
        (fun x => [.ro xs te, .ro xs2 te2, dmap x.ms x.cm, .cells (dcs x.v 2) T_dots_Dots])
        (fun x => x.i ≤ l.length ∧ Canon x.v x.ms (Seen (l.take x.i)) ∧ MOK x.ms x.cm) (fun x => l.length - x.i)
        ⟨0, fun _ => 0, [], 0⟩ [0, 1, 5, 6] ⟨⟨Nat.zero_le _, canon_start _, MOK.nil 0⟩, rfl, rfl, rfl⟩ ?_
      rintro ⟨i, v, ms, cm⟩ ⟨hi, hC, hM⟩ g
      simp only at hi hC hM
      refine And.intro (fun h => ?_) (fun h => ?_)
      · have h := of_decide_eq_true h
        have hil : i < l.length := by simp only at h; omega
        have hr : Row xs2 o2 l.length l := hr2 (by omega)
        refine And.intro ⟨Int.natCast_nonneg i, h, hr.2.1⟩ ?_
        refine Exists.intro _ (And.intro (hr.cut i hil) ?_)
        refine VCall.mk [3, 2] (s_Add v ms cm _ hC hM l[i].1 l[i].2) ⟨rfl, rfl, rfl⟩ ?_
        rintro _ _ ⟨ra, re, v', ms', cm', rfl, rfl, hA, hM'⟩
        have hw : IntKind.i64.wrap ((i : Int) + 1) = ((i + 1 : Nat) : Int) := wrap64 (by omega)
        refine Exists.intro _ (And.intro hw ?_)
        exact Exists.intro ⟨i + 1, v', ms', cm'⟩ (Exists.intro [0, 1, 2, 3] (And.intro ⟨⟨hil, hC.addL hil (by omega) hA, hM'⟩, by simp only; omega⟩ ⟨rfl, rfl, rfl⟩))
      have h := of_decide_eq_false h
      have hil : i = l.length := by simp only at h; omega
      subst hil
      rw [List.take_length] at hC
      have hml : ms.length ≤ 60 := by
        have h2 := hC.len_list (L := l) (fun d hd => hd.2)
        have h3 := hC.len_ms
        omega
      refine VCall.nil T_uint8 [1] [] ⟨rfl, rfl⟩ (VCall.mk [3, 2, 4] (s_dots_Put v ms cm _ hC hM (by omega) [] [] T_uint8 0 0 brow_nil (by simp)) ⟨rfl, rfl, rfl⟩ ?_)
      rintro _ _ ⟨d, hs, oA, cA, ysA, rfl, rfl, hBA⟩
      have hdl : d.length ≤ 60 := by have := hs.len; omega
      have hbyA := putB_byte hC.lo (hs.isDot hC) (by omega)
      rw [List.nil_append] at hBA
      refine VCall.mk [5] (s_Read (putB v d) ysA T_uint8 oA cA hBA (putB_len60 hC.lo (hs.isDot hC) hdl)) ⟨rfl, rfl, rfl⟩ ?_
      rintro _ _ ⟨oB, cB, ysB, rfl, rfl, hBB⟩
      obtain ⟨vz, hgz, hvz⟩ := getD_again hC hs hdl
      refine VCall.mk [7, 6] (s_Get (putB v d) oB cB ysB T_uint8 hBB hbyA) ⟨rfl, rfl, rfl⟩ ?_
      rintro _ _ (⟨v3, es3, l3, hg3, rfl, oC, cC, ms3, cm3, rfl, hBC, _, hM3, hK3, hA3⟩ | ⟨hg3, _⟩)
      rotate_left 1
      · rw [hgz] at hg3; cases hg3
      rw [hgz] at hg3
      simp only [Option.some.injEq, Prod.mk.injEq] at hg3
      obtain ⟨rfl, rfl, rfl⟩ := hg3
      refine VCall.mk [3, 2, 9, 8] (s_Same _ _ _ ms3 cm cm3 hM) ⟨rfl, rfl, rfl⟩ ?_
      rintro _ _ ⟨b, rfl, hb, rfl⟩
      obtain rfl : b = true := hb.2 ⟨fun i hi => (hvz i hi).symm, hs.eqM hK3 hA3 hC.nd⟩
      refine And.intro (fun _ => ?_) (fun h => absurd h (by decide))
      refine VCall.mk [7, 6] (s_End oC ([] : List Int).length cC false ysB T_uint8) ⟨rfl, rfl, rfl⟩ ?_
      rintro _ _ ⟨rfl, rfl⟩
      exact VRet.mk [0, 1] (bv _) [.ro xs te, .ro xs2 te2] ⟨rfl, rfl, rfl⟩ ⟨rfl, rfl⟩
    · refine VCall.mk [4, 0] (s_ref_GetDots L o c xs te hL hx hby (by omega)) ⟨rfl, rfl, rfl⟩ ?_
      rintro _ _ (⟨w, es, k, hg2, _⟩ | ⟨_, rfl, aa, rfl⟩)
      · rw [hg] at hg2; cases hg2
      refine And.intro (fun _ => ?_) (fun h => absurd h (by decide))
      refine And.intro rfl ?_
      refine VCall.mk [] s_dots_New ⟨rfl, rfl, rfl⟩ ?_
      rintro _ _ ⟨rfl, rfl⟩
      refine VLoop.mk DBX (fun x => [(1, .sl 1 o2 l.length c2), (9, .ptr 3 0), (10, iv x.i)])
        (fun x => [.ro xs te, .ro xs2 te2, dmap x.ms x.cm, .cells (dcs x.v 2) T_dots_Dots])
        (fun x => x.i ≤ l.length ∧ Canon x.v x.ms (Seen (l.take x.i)) ∧ MOK x.ms x.cm) (fun x => l.length - x.i)
        ⟨0, fun _ => 0, [], 0⟩ [0, 1, 6, 7] ⟨⟨Nat.zero_le _, canon_start _, MOK.nil 0⟩, rfl, rfl, rfl⟩ ?_
      rintro ⟨i, v, ms, cm⟩ ⟨hi, hC, hM⟩ g
      simp only at hi hC hM
      refine And.intro (fun h => ?_) (fun h => ?_)
      · have h := of_decide_eq_true h
        have hil : i < l.length := by simp only at h; omega
        have hr : Row xs2 o2 l.length l := hr2 (by omega)
        refine And.intro ⟨Int.natCast_nonneg i, h, hr.2.1⟩ ?_
        refine Exists.intro _ (And.intro (hr.cut i hil) ?_)
        refine VCall.mk [3, 2] (s_Add v ms cm _ hC hM l[i].1 l[i].2) ⟨rfl, rfl, rfl⟩ ?_
        rintro _ _ ⟨ra, re, v', ms', cm', rfl, rfl, hA, hM'⟩
        have hw : IntKind.i64.wrap ((i : Int) + 1) = ((i + 1 : Nat) : Int) := wrap64 (by omega)
        refine Exists.intro _ (And.intro hw ?_)
        exact Exists.intro ⟨i + 1, v', ms', cm'⟩ (Exists.intro [0, 1, 2, 3] (And.intro ⟨⟨hil, hC.addL hil (by omega) hA, hM'⟩, by simp only; omega⟩ ⟨rfl, rfl, rfl⟩))
      have h := of_decide_eq_false h
      have hil : i = l.length := by simp only at h; omega
      subst hil
      rw [List.take_length] at hC
      have hml : ms.length ≤ 60 := by
        have h2 := hC.len_list (L := l) (fun d hd => hd.2)
        have h3 := hC.len_ms
        omega
      refine VCall.nil T_uint8 [1] [] ⟨rfl, rfl⟩ (VCall.mk [3, 2, 4] (s_dots_Put v ms cm _ hC hM (by omega) [] [] T_uint8 0 0 brow_nil (by simp)) ⟨rfl, rfl, rfl⟩ ?_)
      rintro _ _ ⟨d, hs, oA, cA, ysA, rfl, rfl, hBA⟩
      have hdl : d.length ≤ 60 := by have := hs.len; omega
      have hbyA := putB_byte hC.lo (hs.isDot hC) (by omega)
      rw [List.nil_append] at hBA
      refine VCall.mk [5] (s_Read (putB v d) ysA T_uint8 oA cA hBA (putB_len60 hC.lo (hs.isDot hC) hdl)) ⟨rfl, rfl, rfl⟩ ?_
      rintro _ _ ⟨oB, cB, ysB, rfl, rfl, hBB⟩
      obtain ⟨vz, hgz, hvz⟩ := getD_again hC hs hdl
      refine VCall.mk [7, 6] (s_Get (putB v d) oB cB ysB T_uint8 hBB hbyA) ⟨rfl, rfl, rfl⟩ ?_
      rintro _ _ (⟨v3, es3, l3, hg3, rfl, oC, cC, ms3, cm3, rfl, hBC, _, hM3, hK3, hA3⟩ | ⟨hg3, _⟩)
      rotate_left 1
      · rw [hgz] at hg3; cases hg3
      rw [hgz] at hg3
      simp only [Option.some.injEq, Prod.mk.injEq] at hg3
      obtain ⟨rfl, rfl, rfl⟩ := hg3
      refine VCall.mk [3, 2, 9, 8] (s_Same _ _ _ ms3 cm cm3 hM) ⟨rfl, rfl, rfl⟩ ?_
      rintro _ _ ⟨b, rfl, hb, rfl⟩
      obtain rfl : b = true := hb.2 ⟨fun i hi => (hvz i hi).symm, hs.eqM hK3 hA3 hC.nd⟩
      refine And.intro (fun _ => ?_) (fun h => absurd h (by decide))
      refine VCall.mk [7, 6] (s_End oC ([] : List Int).length cC false ysB T_uint8) ⟨rfl, rfl, rfl⟩ ?_
      rintro _ _ ⟨rfl, rfl⟩
      exact VRet.mk [0, 1] (bv _) [.ro xs te, .ro xs2 te2] ⟨rfl, rfl, rfl⟩ ⟨rfl, rfl⟩
end Go.Proofs

namespace Go.Proofs.Ytmidamdjpabpbaa
open Go.ChangeShapes Go.WideShapes Go.ChangeAt Go.RowKit Go.V Go.Joins
set_option maxRecDepth 100000

theorem own : ownKnob Try.prog.godebug = none := by kernel_rfl
theorem laidOut : laidOutB Try.prog = true := by kernel_rfl

/-- A slice of dots that came in. -/
theorem open_dots {H : Type} {enc : TypeId × Value → H} {W : World} {base : Nat} {a : Option Addr} {len cap : Nat} {d : DataW H} {p : List MemPlace}
    (hval : Value.okWide Try.prog W .any base T_sl_api_Dot (.slice a len cap)) (h : DataW.Trod enc Try.prog W 0 (fun _ => true) true T_sl_api_Dot (.slice a len cap) d p) :
    ∃ (ds : List (Int × Int)) (xs : List Value) (te : TypeId) (o : Nat) (bo : Option Nat), ds.length = len ∧ roOK W bo xs te ∧ bo.map (fun b => (⟨b, o, none⟩ : Addr)) = a ∧ len ≤ cap ∧
      (∀ x ∈ ds, (Lit.int .i64 x.1).wf = true ∧ (Lit.int .i64 x.2).wf = true) ∧ (0 < ds.length → Row xs o ds.length ds) := by
  obtain ⟨ds, xs, te, o, bo, h1, h2, h3, h4, h5, h6⟩ := open_pairs (k0 := .i64) (k1 := .i64) Try.underlying22 Try.underlying24 (by kernel_rfl) rfl rfl (by kernel_rfl) (by kernel_rfl) Try.underlying3 Try.underlying2 hval h
  exact ⟨ds, xs, te, o, bo, h1, h2, h3, h4, h5, fun hp => ⟨Nat.le_refl _, h6 hp⟩⟩

end Go.Proofs.Ytmidamdjpabpbaa

namespace Go.Proofs.Ytmidamdjpabpbaa
open Go.ChangeShapes Go.WideShapes Go.ChangeAt Go.RowKit Go.V Go.Joins
set_option maxRecDepth 100000

/-- A slice of bytes that came in. -/
theorem open_bytes {H : Type} {enc : TypeId × Value → H} {W : World} {base : Nat} {a : Option Addr} {len cap : Nat} {d : DataW H} {p : List MemPlace}
    (hval : Value.okWide Try.prog W .any base T_sl_uint8 (.slice a len cap)) (h : DataW.Trod enc Try.prog W 0 (fun _ => true) true T_sl_uint8 (.slice a len cap) d p) :
    ∃ (L : List Int) (xs : List Value) (te : TypeId) (o : Nat) (bo : Option Nat), L.length = len ∧ roOK W bo xs te ∧ bo.map (fun b => (⟨b, o, none⟩ : Addr)) = a ∧ len ≤ cap ∧
      (∀ x ∈ L, 0 ≤ x ∧ x < 256) ∧ ((0 < L.length → o + L.length ≤ xs.length) ∧ (xs.drop o).take L.length = L.map (Value.int .u8)) := by
  obtain ⟨L, xs, te, o, bo, h1, h2, h3, h4, h5, h6⟩ := open_ints (k := .u8) Try.underlying47 Try.underlying5 (by kernel_rfl) hval h
  refine ⟨L, xs, te, o, bo, h1, h2, h3, h4, fun x hx => ?_, h6⟩
  have := h5 x hx
  simp [Lit.wf, IntKind.min, IntKind.max, IntKind.signed, IntKind.bits] at this
  omega

end Go.Proofs.Ytmidamdjpabpbaa

namespace Go.Proofs.Ytmidamdjpabpbaa
open Go.ChangeShapes Go.WideShapes Go.ChangeAt Go.RowKit Go.V Go.Joins
set_option maxRecDepth 100000

theorem dotsBytes_lifted (os : Os) (started : os.Started) (H : Type) (enc : TypeId × Value → H) :
    ReturnsInHanded {} Try.checked os 7 .any (Rows.dotsBytesSpec.pre6 enc Try.prog Try.f7 Rows.dotsBytesRow.domain false) (Rows.dotsBytesSpec.post enc Try.prog Try.f7 false true false false) := by
  refine returnsInHanded_of_change (C := Try.checked) own started (by kernel_rfl) Try.func7
    (ChangeSpec.witness6 (enc := enc) (C := Try.checked) false ⟨#[], #[.slice none 0 0, .slice none 0 0], []⟩ 8 (by kernel_rfl) (by kernel_rfl) (by kernel_rfl) (by kernel_rfl)) ?_
  intro W base args ds gs before hval0 hW hcnd _
  have hval : ∀ (j : Nat) t v, Try.f7.params[j]? = some t → args[j]? = some v → Value.okWide Try.prog W .any base t v := hval0
  have hW' := hW
  obtain ⟨p, q, hA0, hV, rfl, hfz, hnd⟩ := hW
  have hA : DataW.TrodAll enc Try.prog W 0 (fun _ => true) true Try.f7.params.toList args.toList ds p := hA0
  rw [Try.params7] at hA hval
  obtain ⟨v0, vs0, d0, ds0, p0, q0, hargs, rfl, rfl, h0, r0⟩ := trodAll_cons hA
  obtain ⟨v1, vs1, d1, ds1, p1, q1, rfl, rfl, rfl, h1, r1⟩ := trodAll_cons r0
  obtain ⟨rfl, rfl, rfl⟩ := trodAll_nil r1
  obtain rfl : args = #[v0, v1] := by cases args; simp_all
  obtain ⟨rfl, rfl⟩ := trodVars_none hV
  have k0 := h0
  have lt0 : ∀ x ∈ p0, x.block < W.heap.size := by obtain ⟨m, hm⟩ := k0; exact DataW.trod_lt m _ _ _ hm
  obtain ⟨a0, len0, cap0, rfl⟩ := okWide_slice Try.underlying47 (hval 0 47 v0 rfl rfl)
  obtain ⟨l0, xs0, te0, o0, bo0, rfl, hro0, rfl, hlc0, hwf0, hrow0⟩ := open_bytes (hval 0 47 _ rfl rfl) h0
  have k1 := h1
  have lt1 : ∀ x ∈ p1, x.block < W.heap.size := by obtain ⟨m, hm⟩ := k1; exact DataW.trod_lt m _ _ _ hm
  obtain ⟨a1, len1, cap1, rfl⟩ := okWide_slice Try.underlying22 (hval 1 22 v1 rfl rfl)
  obtain ⟨l1, xs1, te1, o1, bo1, rfl, hro1, rfl, hlc1, hwf1, hrow1⟩ := open_dots (hval 1 22 _ rfl rfl) h1
  clear hA0 hval0
  refine Calls.mono (ctr_below (s_DotsBytes l0 l1 xs0 xs1 o0 o1 cap0 cap1 te0 te1 hrow0.1 hrow0.2 hwf0 hrow1) W (fun k => match k with | 0 => bo0 | 1 => bo1 | _ => none) ?_ rfl rfl (r := .bool true) ?_) fun e W' ⟨he, bel⟩ => ?_
  · intro k so hk
    match k with
    | 0 => cases hk; exact ⟨rfl, hro0⟩
    | 1 => cases hk; exact ⟨rfl, hro1⟩
    | k + 2 => simp at hk
  · rintro v H' ρ' ⟨rfl, _⟩; rfl
  subst he
  exact ⟨_, rfl, _, _, _, [], _, [], hW', trodAll_mk1 (shut_bool Try.underlying4 _), (trodAll_cons_mk (Below.trod laidOut (by kernel_rfl) (of_decide_eq_true (by kernel_rfl)) k0 bel lt0) (trodAll_cons_mk (Below.trod laidOut (by kernel_rfl) (of_decide_eq_true (by kernel_rfl)) k1 bel lt1) trodAll_mk0)), rfl, bel.frame _, fun h => by cases h⟩

theorem dotsBytes_holds : Rows.DotsBytesSaid :=
  OpenClaim.holds_of_wide 7 Try.f7 rfl rfl rfl rfl rfl rfl rfl ⟨rfl, rfl, rfl, rfl, rfl⟩ rfl rfl rfl rfl rfl (by kernel_rfl) Try.func7 (by kernel_rfl)
    (of_decide_eq_true (by kernel_rfl)) (by unfold Func.isWrapper; first | (rw [if_pos (by decide +kernel)]; kernel_rfl) | (rw [if_neg (by decide +kernel)]; exact ⟨rfl, rfl⟩))
    (fun os started H enc _ => dotsBytes_lifted os started H enc)
end Go.Proofs.Ytmidamdjpabpbaa

