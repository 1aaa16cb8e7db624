/- Part of the proof that the statement named in the last file holds: lemmas of the prover's own. No conditions. -/
import Derived.Test.YtmidamdjpabpbaaDC
namespace Go.Proofs
open Go Go.V
set_option maxRecDepth 100000
set_option linter.unusedVariables false

structure GX where
  i : Nat
  l : List (Int × Int)
  ys : List Value
  o : Nat
  c : Nat
theorem RC.merge_ci {v v2 : Nat → Int} {l l2 m : List (Int × Int)} {S S2 : Int × Int → Prop} (h : RC v l S) (h2 : RC v2 l2 S2) (hu : Rises m) (hm : ∀ d, d ∈ m ↔ (d ∈ l ∨ d ∈ l2)) : CI (fun x => S x ∨ S2 x) (vmax v v2) [] m where
  lo := vmax_lo h.can.lo h2.can.lo
  seen := fun d => by
    rw [h.can.seen, h2.can.seen, inM_mkD, inM_mkD, has_vmax, hm]
    constructor
    · rintro ((h | h) | (h | h))
      · exact .inl (.inl h)
      · exact .inr (.inr (.inl h))
      · exact .inl (.inr h)
      · exact .inr (.inr (.inr h))
    · rintro ((h | h) | h | (h | h))
      · exact .inl (.inl h)
      · exact .inr (.inl h)
      · simp at h
      · exact .inl (.inr h)
      · exact .inr (.inr h)
  dots := fun x hx => by
    rw [List.nil_append, hm] at hx
    rcases hx with hx | hx
    · exact (h.can.far x (inM_mkD.2 hx)).1
    · exact (h2.can.far x (inM_mkD.2 hx)).1
  gap := fun x hx => by simp at hx
  up := by simpa using hu
theorem isD_of_mem {v : Nat → Int} {l : List (Int × Int)} {S : Int × Int → Prop} (h : RC v l S) {d : Int × Int} (hd : d ∈ l) : isDot d.1 d.2 = true := (h.can.far d (inM_mkD.2 hd)).1

theorem s_ref_DMerge (v v2 : Nat → Int) (l l2 : List (Int × Int)) (S S2 : Int × Int → Prop) (h0 : RC v l S) (h2 : RC v2 l2 S2) (xs xs2 : List Value) (o o2 c c2 : Nat) (te te2 : TypeId) (hr : Row xs o c l) (hr2 : Row xs2 o2 c2 l2) (hl : l.length ≤ 100000) (hl2 : l2.length ≤ 100000) :
    Ctr Try.prog F_rostrumref7_Dots_Merge [.ptr 0 0, .ptr 2 0] [.cells (rcs v 1 o l.length c) T_rostrumref7_Dots, .arr xs te, .cells (rcs v2 3 o2 l2.length c2) T_rostrumref7_Dots, .arr xs2 te2]
    (fun x H => ∃ v' l', RC v' l' (fun x => S x ∨ S2 x) ∧
      ((1000 < l'.length ∧ x = bv false ∧ H = [.cells (rcs v 1 o l.length c) T_rostrumref7_Dots, .arr xs te, .cells (rcs v2 3 o2 l2.length c2) T_rostrumref7_Dots, .arr xs2 te2]) ∨
       (l'.length ≤ 1000 ∧ x = bv true ∧ ∃ o' c' ys, H = [.cells (rcs v' 4 o' l'.length c') T_rostrumref7_Dots, .arr xs te, .cells (rcs v2 3 o2 l2.length c2) T_rostrumref7_Dots, .arr xs2 te2, .arr ys T_api_Dot] ∧ Row ys o' c' l'))) := by
  refine i_rostrumref7_Dots_Merge.spec follows ?_
  have hpre := hr.pre l.length (Nat.le_refl _)
  rw [List.take_length] at hpre
  have hrl2 : o2 + l2.length * 2 ≤ xs2.length := by have := hr2.1; have := hr2.2.1; omega
  refine And.intro ?_ ?_
  · refine VCall.mk [] (s_ref_Merge v v2) ⟨rfl, rfl, rfl⟩ ?_
    rintro _ _ ⟨rfl, rfl⟩
    refine And.intro rfl (And.intro rfl ?_)
    refine And.intro rfl (And.intro rfl ?_)
    refine And.intro ⟨⟨Nat.zero_le _, by simp, rfl⟩, ⟨by rw [hpre, dcl_len], by rw [hpre]; exact dcl_cellsOK _⟩, by omega⟩ ?_
    intro zs oo cc hz
    have hz : 0 + l.length ≤ cc ∧ oo + cc * 2 ≤ zs.length ∧ (zs.drop oo).take ((0 + l.length) * 2) = (([] : List Value).drop 0).take (0 * 2) ++ (xs.drop o).take (l.length * 2) := hz
    rw [hpre] at hz
    refine VLoop.mk GX (fun x => [(0, .ptr 0 0), (1, .ptr 2 0), (5, .ptr 5 0), (6, iv x.i)])
      (fun x => [.cells (rcs v 1 o l.length c) T_rostrumref7_Dots, .arr xs te, .cells (rcs v2 3 o2 l2.length c2) T_rostrumref7_Dots, .arr xs2 te2, .arr x.ys T_api_Dot, .cells (rcs (vmax v v2) 4 x.o x.l.length x.c) T_rostrumref7_Dots])
      (fun x => x.i ≤ l2.length ∧ Rises x.l ∧ Row x.ys x.o x.c x.l ∧ (∀ d, d ∈ x.l ↔ (d ∈ l ∨ d ∈ l2.take x.i)) ∧ x.l.length ≤ l.length + x.i) (fun x => l2.length - x.i) ⟨0, l, zs, oo, cc⟩ [0, 1, 2, 3, 5, 6]
      ⟨⟨Nat.zero_le _, h0.up, ⟨by have := hz.1; simp only; omega, hz.2.1, by have := hz.2.2; simpa using this⟩, fun d => by simp, by simp⟩, rfl, ?_, rfl⟩ ?_
    · rw [Nat.zero_add]; rfl
    rintro ⟨i, m, ys, om, cm⟩ ⟨hi, hU, hR, hM, hL⟩ g
    simp only at hi hU hR hM hL
    refine And.intro (fun h => ?_) (fun h => ?_)
    · have h := of_decide_eq_true h
      have hil : i < l2.length := by simp only at h; omega
      have hmu : l2.length - (i + 1) < l2.length - i := by omega
      refine And.intro ⟨Int.natCast_nonneg i, h, hrl2⟩ ?_
      refine Exists.intro _ (And.intro (hr2.cut i hil) ?_)
      refine VCall.mk [4] (s_insert m _ _ ys om cm T_api_Dot hR (by omega)) ⟨rfl, rfl, rfl⟩ ?_
      rintro _ _ ⟨k, hk, q1, q2, hcase⟩
      have hw : IntKind.i64.wrap ((i : Int) + 1) = ((i + 1 : Nat) : Int) := wrap64 (by omega)
      rcases hcase with ⟨hkl, e, rfl, rfl⟩ | ⟨q3, o1, c1, ys1, rfl, rfl, hRow⟩
      · refine Exists.intro _ (And.intro hw ?_)
        refine Exists.intro ⟨i + 1, m, ys, om, cm⟩ (Exists.intro [0, 1, 2, 3, 4, 5] (And.intro ⟨⟨hil, hU, hR, fun d => ?_, by simp only; omega⟩, hmu⟩ ⟨rfl, rfl, rfl⟩))
        simp only
        rw [hM, ← List.take_append_getElem hil, List.mem_append, List.mem_singleton]
        constructor
        · rintro (h | h)
          · exact .inl h
          · exact .inr (.inl h)
        · rintro (h | h | h)
          · exact .inl h
          · exact .inr h
          · have : d ∈ m := by
              have e2 : m[k] = l2[i] := e
              rw [h, ← e2]; exact List.getElem_mem hkl
            exact (hM d).1 this
      · refine Exists.intro _ (And.intro hw ?_)
        refine Exists.intro ⟨i + 1, insAt m k (l2[i].1, l2[i].2), ys1, o1, c1⟩ (Exists.intro [0, 1, 2, 3, 6, 5] (And.intro ⟨⟨hil, hU.insAt q1 q2 q3, hRow, fun d => ?_, by simp only; rw [insAt_len hk]; omega⟩, hmu⟩ ⟨rfl, rfl, rfl⟩))
        simp only
        rw [mem_insAt, hM, ← List.take_append_getElem hil, List.mem_append, List.mem_singleton]
        constructor
        · rintro (h | h | h)
          · exact .inr (.inr h)
          · exact .inl h
          · exact .inr (.inl h)
        · rintro (h | h | h)
          · exact .inr (.inl h)
          · exact .inr (.inr h)
          · exact .inl h
    · have h := of_decide_eq_false h
      have hil : i = l2.length := by simp only at h; omega
      subst hil
      rw [List.take_length] at hM
      refine VCall.mk [5, 4] (s_ref_close (vmax v v2) m (fun x => S x ∨ S2 x) (h0.merge_ci h2 hU hM) ys om cm T_api_Dot hR (by omega)) ⟨rfl, rfl, rfl⟩ ?_
      rintro _ _ ⟨rfl, v', l', o3, c3, ys3, rfl, hR3, hC3, hU3⟩
      refine And.intro (fun hg => ?_) (fun hg => ?_)
      · have hg := of_decide_eq_true hg
        exact VRet.mk [0, 1, 2, 3] (bv false) [.cells (rcs v 1 o l.length c) T_rostrumref7_Dots, .arr xs te, .cells (rcs v2 3 o2 l2.length c2) T_rostrumref7_Dots, .arr xs2 te2] ⟨rfl, rfl, rfl⟩ ⟨v', l', ⟨hC3, hU3⟩, .inl ⟨by omega, rfl, rfl⟩⟩
      · have hg := of_decide_eq_false hg
        exact VRet.mk [0, 1, 2, 3, 6] (bv true) [.cells (rcs v' 4 o3 l'.length c3) T_rostrumref7_Dots, .arr xs te, .cells (rcs v2 3 o2 l2.length c2) T_rostrumref7_Dots, .arr xs2 te2, .arr ys3 T_api_Dot] ⟨rfl, rfl, rfl⟩ ⟨v', l', ⟨hC3, hU3⟩, .inr ⟨by omega, rfl, o3, c3, ys3, rfl, hR3⟩⟩
  · refine And.intro rfl (And.intro rfl (And.intro rfl (And.intro rfl (And.intro rfl (And.intro rfl ?_)))))
    refine VCall.mk [] (s_ref_Merge v v2) ⟨rfl, rfl, rfl⟩ ?_
    rintro _ _ ⟨rfl, rfl⟩
    refine And.intro rfl (And.intro rfl ?_)
    refine And.intro ⟨⟨Nat.zero_le _, by simp, rfl⟩, ⟨by rw [hpre, dcl_len], by rw [hpre]; exact dcl_cellsOK _⟩, by omega⟩ ?_
    intro zs oo cc hz
    have hz : 0 + l.length ≤ cc ∧ oo + cc * 2 ≤ zs.length ∧ (zs.drop oo).take ((0 + l.length) * 2) = (([] : List Value).drop 0).take (0 * 2) ++ (xs.drop o).take (l.length * 2) := hz
    rw [hpre] at hz
    refine VLoop.mk GX (fun x => [(0, .ptr 0 0), (1, .ptr 2 0), (5, .ptr 5 0), (6, iv x.i)])
      (fun x => [.cells (rcs v 1 o l.length c) T_rostrumref7_Dots, .arr xs te, .cells (rcs v2 3 o2 l2.length c2) T_rostrumref7_Dots, .arr xs2 te2, .arr x.ys T_api_Dot, .cells (rcs (vmax v v2) 4 x.o x.l.length x.c) T_rostrumref7_Dots])
      (fun x => x.i ≤ l2.length ∧ Rises x.l ∧ Row x.ys x.o x.c x.l ∧ (∀ d, d ∈ x.l ↔ (d ∈ l ∨ d ∈ l2.take x.i)) ∧ x.l.length ≤ l.length + x.i) (fun x => l2.length - x.i) ⟨0, l, zs, oo, cc⟩ [0, 1, 2, 3, 5, 6]
      ⟨⟨Nat.zero_le _, h0.up, ⟨by have := hz.1; simp only; omega, hz.2.1, by have := hz.2.2; simpa using this⟩, fun d => by simp, by simp⟩, rfl, ?_, rfl⟩ ?_
    · rw [Nat.zero_add]; rfl
    rintro ⟨i, m, ys, om, cm⟩ ⟨hi, hU, hR, hM, hL⟩ g
    simp only at hi hU hR hM hL
    refine And.intro (fun h => ?_) (fun h => ?_)
    · have h := of_decide_eq_true h
      have hil : i < l2.length := by simp only at h; omega
      have hmu : l2.length - (i + 1) < l2.length - i := by omega
      refine And.intro ⟨Int.natCast_nonneg i, h, hrl2⟩ ?_
      refine Exists.intro _ (And.intro (hr2.cut i hil) ?_)
      refine VCall.mk [4] (s_insert m _ _ ys om cm T_api_Dot hR (by omega)) ⟨rfl, rfl, rfl⟩ ?_
      rintro _ _ ⟨k, hk, q1, q2, hcase⟩
      have hw : IntKind.i64.wrap ((i : Int) + 1) = ((i + 1 : Nat) : Int) := wrap64 (by omega)
      rcases hcase with ⟨hkl, e, rfl, rfl⟩ | ⟨q3, o1, c1, ys1, rfl, rfl, hRow⟩
      · refine Exists.intro _ (And.intro hw ?_)
        refine Exists.intro ⟨i + 1, m, ys, om, cm⟩ (Exists.intro [0, 1, 2, 3, 4, 5] (And.intro ⟨⟨hil, hU, hR, fun d => ?_, by simp only; omega⟩, hmu⟩ ⟨rfl, rfl, rfl⟩))
        simp only
        rw [hM, ← List.take_append_getElem hil, List.mem_append, List.mem_singleton]
        constructor
        · rintro (h | h)
          · exact .inl h
          · exact .inr (.inl h)
        · rintro (h | h | h)
          · exact .inl h
          · exact .inr h
          · have : d ∈ m := by
              have e2 : m[k] = l2[i] := e
              rw [h, ← e2]; exact List.getElem_mem hkl
            exact (hM d).1 this
      · refine Exists.intro _ (And.intro hw ?_)
        refine Exists.intro ⟨i + 1, insAt m k (l2[i].1, l2[i].2), ys1, o1, c1⟩ (Exists.intro [0, 1, 2, 3, 6, 5] (And.intro ⟨⟨hil, hU.insAt q1 q2 q3, hRow, fun d => ?_, by simp only; rw [insAt_len hk]; omega⟩, hmu⟩ ⟨rfl, rfl, rfl⟩))
        simp only
        rw [mem_insAt, hM, ← List.take_append_getElem hil, List.mem_append, List.mem_singleton]
        constructor
        · rintro (h | h | h)
          · exact .inr (.inr h)
          · exact .inl h
          · exact .inr (.inl h)
        · rintro (h | h | h)
          · exact .inr (.inl h)
          · exact .inr (.inr h)
          · exact .inl h
    · have h := of_decide_eq_false h
      have hil : i = l2.length := by simp only at h; omega
      subst hil
      rw [List.take_length] at hM
      refine VCall.mk [5, 4] (s_ref_close (vmax v v2) m (fun x => S x ∨ S2 x) (h0.merge_ci h2 hU hM) ys om cm T_api_Dot hR (by omega)) ⟨rfl, rfl, rfl⟩ ?_
      rintro _ _ ⟨rfl, v', l', o3, c3, ys3, rfl, hR3, hC3, hU3⟩
      refine And.intro (fun hg => ?_) (fun hg => ?_)
      · have hg := of_decide_eq_true hg
        exact VRet.mk [0, 1, 2, 3] (bv false) [.cells (rcs v 1 o l.length c) T_rostrumref7_Dots, .arr xs te, .cells (rcs v2 3 o2 l2.length c2) T_rostrumref7_Dots, .arr xs2 te2] ⟨rfl, rfl, rfl⟩ ⟨v', l', ⟨hC3, hU3⟩, .inl ⟨by omega, rfl, rfl⟩⟩
      · have hg := of_decide_eq_false hg
        exact VRet.mk [0, 1, 2, 3, 6] (bv true) [.cells (rcs v' 4 o3 l'.length c3) T_rostrumref7_Dots, .arr xs te, .cells (rcs v2 3 o2 l2.length c2) T_rostrumref7_Dots, .arr xs2 te2, .arr ys3 T_api_Dot] ⟨rfl, rfl, rfl⟩ ⟨v', l', ⟨hC3, hU3⟩, .inr ⟨by omega, rfl, o3, c3, ys3, rfl, hR3⟩⟩
end Go.Proofs

namespace Go.Proofs
open Go Go.V
set_option maxRecDepth 100000
set_option linter.unusedVariables false

def rowB (d : List (Int × Int)) : List Int := d.flatMap fun x => numB (2 * x.1.toNat) ++ numB (2 * x.2.toNat)
def putB (v : Nat → Int) (d : List (Int × Int)) : List Int := vecB v 7 ++ numB (2 * d.length) ++ rowB d
theorem rowB_step {d : List (Int × Int)} {i : Nat} (h : i < d.length) : rowB (d.take (i + 1)) = rowB (d.take i) ++ numB (2 * d[i].1.toNat) ++ numB (2 * d[i].2.toNat) := by
  rw [← List.take_append_getElem h, rowB, rowB, List.flatMap_append]
  simp only [List.flatMap_cons, List.flatMap_nil, List.append_nil, List.append_assoc]
theorem rowB_len {d : List (Int × Int)} (h : ∀ x ∈ d, isDot x.1 x.2 = true) : (rowB d).length ≤ 20 * d.length := by
  induction d with
  | nil => simp [rowB]
  | cons x d ih =>
    have h1 := ih fun y hy => h y (by simp [hy])
    have h2 := isDot_iff.1 (h x (by simp))
    have h3 := numB_len10 (u := 2 * x.1.toNat) (by omega)
    have h4 := numB_len10 (u := 2 * x.2.toNat) (by omega)
    simp only [rowB, List.flatMap_cons, List.length_append, List.length_cons] at *; omega
theorem Srt.isDot {v : Nat → Int} {ms : DM} {S : Int × Int → Prop} (hC : Canon v ms S) {d : List (Int × Int)} (h : Srt ms d) : ∀ x ∈ d, isDot x.1 x.2 = true := fun x hx => (hC.far x ((h.mem x).1 hx)).1
theorem Srt.len {ms : DM} {d : List (Int × Int)} (h : Srt ms d) : d.length = ms.length := by have := h.1.length_eq; simpa [keysOf] using this

structure PX where
  i : Nat
  xs : List Value
  o : Nat
  c : Nat
  l : List Int
theorem s_dots_Put (v : Nat → Int) (ms : DM) (cm : Nat) (S : Int × Int → Prop) (hC : Canon v ms S) (hM : MOK ms cm) (hml : ms.length ≤ 100000) (l : List Int) (xs : List Value) (te : TypeId) (o c : Nat) (hb : Brow xs o c l) (hl : l.length ≤ 1000000) :
    Ctr Try.prog F_dots_Dots_Put [.ptr 0 0, .sl 2 o l.length c] [.cells (dcs v 1) T_dots_Dots, dmap ms cm, .arr xs te]
    (fun x H => ∃ d, Srt ms d ∧ ∃ o' c' ys, x = .sl 3 o' (l ++ putB v d).length c' ∧ H = [.cells (dcs v 1) T_dots_Dots, dmap ms cm, .arr xs te, .arr ys T_uint8] ∧ Brow ys o' c' (l ++ putB v d)) := by
  refine i_dots_Dots_Put.spec follows ?_
  have hvl := vecB_len hC.lo 7 (Nat.le_refl _)
  have el : (ents encD encU ms).length = ms.length := by simp [ents]
  refine VCall.mk [2] (s_vec_Put l xs te o c hb (by omega) v hC.lo) ⟨rfl, rfl, rfl⟩ ?_
  rintro _ _ ⟨o1, c1, ys1, rfl, rfl, hB1⟩
  refine And.intro rfl (And.intro rfl ?_)
  refine VCall.mk [3] (s_pack_Num (l ++ vecB v 7) ys1 T_uint8 o1 c1 hB1 (by rw [List.length_append]; omega) ((ents encD encU ms).length : Int) (by rw [el]; omega)) ⟨rfl, rfl, rfl⟩ ?_
  rintro _ _ ⟨o2, c2, ys2, rfl, rfl, hB2⟩
  refine VCall.mk [0, 1] (s_Loose v ms cm hM (by omega)) ⟨rfl, rfl, rfl⟩ ?_
  rintro _ _ ⟨d, oL, cL, ysL, rfl, rfl, hp, hq, hrL⟩
  have hs : Srt ms d := ⟨hp, hq⟩
  have hdl := hs.len
  have hdd := hs.isDot hC
  have hn := numB_len10 (u := 2 * ((ents encD encU ms).length : Int).toNat) (by rw [el]; omega)
  have hen : ((ents encD encU ms).length : Int).toNat = d.length := by rw [el, hdl]; rfl
  refine VLoop.mk PX (fun x => [(1, .sl 4 x.o x.l.length x.c), (20, .sl 3 oL d.length cL), (21, iv d.length), (22, iv x.i)])
    (fun x => [.cells (dcs v 1) T_dots_Dots, dmap ms cm, .arr xs te, .arr ysL T_api_Dot, .arr x.xs T_uint8])
    (fun x => x.i ≤ d.length ∧ Brow x.xs x.o x.c x.l ∧ x.l = l ++ vecB v 7 ++ numB (2 * d.length) ++ rowB (d.take x.i)) (fun x => d.length - x.i)
    ⟨0, ys2, o2, c2, l ++ vecB v 7 ++ numB (2 * ((ents encD encU ms).length : Int).toNat)⟩ [0, 1, 2, 5, 4] ⟨⟨Nat.zero_le _, hB2, by rw [hen]; simp [rowB]⟩, rfl, rfl, rfl⟩ ?_
  rintro ⟨i, zs, o3, c3, m⟩ ⟨hi, hB, hm⟩ g
  simp only at hi hB hm
  rw [hen] at hn
  have hml2 : m.length ≤ 1000080 + 20 * i := by
    have h1 := rowB_len (d := d.take i) fun x hx => hdd x (List.mem_of_mem_take hx)
    have h2 : (d.take i).length = i := by rw [List.length_take]; omega
    rw [h2] at h1
    rw [hm]; simp only [List.length_append]; omega
  refine And.intro (fun h => ?_) (fun h => ?_)
  · have h := of_decide_eq_true h
    have hil : i < d.length := by simp only at h; omega
    have hdi := isDot_iff.1 (hdd d[i] (List.getElem_mem hil))
    refine And.intro ⟨Int.natCast_nonneg i, h, by have := hrL.1; have := hrL.2.1; omega⟩ ?_
    refine Exists.intro _ (And.intro (hrL.cut i hil) ?_)
    refine VCall.mk [4] (s_pack_Num m zs T_uint8 o3 c3 hB (by omega) d[i].1 (by omega)) ⟨rfl, rfl, rfl⟩ ?_
    rintro _ _ ⟨o4, c4, ys4, rfl, rfl, hB4⟩
    have hn4 := numB_len10 (u := 2 * d[i].1.toNat) (by omega)
    refine And.intro rfl ?_
    refine VCall.mk [6] (s_pack_Num _ ys4 T_uint8 o4 c4 hB4 (by rw [List.length_append]; omega) d[i].2 (by omega)) ⟨rfl, rfl, rfl⟩ ?_
    rintro _ _ ⟨o5, c5, ys5, rfl, rfl, hB5⟩
    have hw : IntKind.i64.wrap ((i : Int) + 1) = ((i + 1 : Nat) : Int) := wrap64 (by omega)
    refine Exists.intro _ (And.intro hw ?_)
    refine Exists.intro ⟨i + 1, ys5, o5, c5, m ++ numB (2 * d[i].1.toNat) ++ numB (2 * d[i].2.toNat)⟩ (Exists.intro [0, 1, 2, 3, 7] (And.intro ⟨⟨hil, hB5, ?_⟩, by simp only; omega⟩ ⟨rfl, rfl, rfl⟩))
    simp only
    rw [rowB_step hil, hm]; simp only [List.append_assoc]
  · have h := of_decide_eq_false h
    have hil : i = d.length := by simp only at h; omega
    subst hil
    rw [List.take_length] at hm
    have hm2 : m = l ++ putB v d := by rw [hm]; simp only [putB, List.append_assoc]
    subst hm2
    exact VRet.mk [0, 1, 2, 4] (.sl 3 o3 (l ++ putB v d).length c3) [.cells (dcs v 1) T_dots_Dots, dmap ms cm, .arr xs te, .arr zs T_uint8] ⟨rfl, rfl, rfl⟩ ⟨d, hs, o3, c3, zs, rfl, rfl, hB⟩

theorem Row.get0 {xs : List Value} {o c : Nat} {l : List (Int × Int)} (h : Row xs o c l) {i : Nat} (hi : i < l.length) : xs[o + (i : Int).toNat * 2 + 0]? = some (.int .i64 l[i].1) := by
  have h1 := h.cut i hi
  have h2 := (cut_spec h1).2 0 (by omega)
  rw [Int.toNat_natCast]; exact h2.symm
theorem Row.get1 {xs : List Value} {o c : Nat} {l : List (Int × Int)} (h : Row xs o c l) {i : Nat} (hi : i < l.length) : xs[o + (i : Int).toNat * 2 + 1]? = some (.int .i64 l[i].2) := by
  have h1 := h.cut i hi
  have h2 := (cut_spec h1).2 1 (by omega)
  rw [Int.toNat_natCast]; exact h2.symm

theorem s_ref_Put (v : Nat → Int) (d : List (Int × Int)) (S : Int × Int → Prop) (hC : RC v d S) (xsL : List Value) (teL : TypeId) (oL cL : Nat) (hrL : Row xsL oL cL d) (hdl : d.length ≤ 100000) (l : List Int) (xs : List Value) (te : TypeId) (o c : Nat) (hb : Brow xs o c l) (hl : l.length ≤ 1000000) :
    Ctr Try.prog F_rostrumref7_Dots_Put [.ptr 0 0, .sl 2 o l.length c] [.cells (rcs v 1 oL d.length cL) T_rostrumref7_Dots, .arr xsL teL, .arr xs te]
    (fun x H => ∃ o' c' ys, x = .sl 3 o' (l ++ putB v d).length c' ∧ H = [.cells (rcs v 1 oL d.length cL) T_rostrumref7_Dots, .arr xsL teL, .arr xs te, .arr ys T_uint8] ∧ Brow ys o' c' (l ++ putB v d)) := by
  refine i_rostrumref7_Dots_Put.spec follows ?_
  have hvl := vecB_len hC.can.lo 7 (Nat.le_refl _)
  refine VCall.mk [2] (s_rostrumref7_PutVec l xs te o c hb (by omega) v hC.can.lo) ⟨rfl, rfl, rfl⟩ ?_
  rintro _ _ ⟨o1, c1, ys1, rfl, rfl, hB1⟩
  refine And.intro rfl (And.intro rfl ?_)
  refine VCall.mk [3] (s_ref1_Num (l ++ vecB v 7) ys1 T_uint8 o1 c1 hB1 (by rw [List.length_append]; omega) (d.length : Int) (by omega)) ⟨rfl, rfl, rfl⟩ ?_
  rintro _ _ ⟨o2, c2, ys2, rfl, rfl, hB2⟩
  have hdd : ∀ x ∈ d, isDot x.1 x.2 = true := fun x hx => isD_of_mem hC hx
  have hn := numB_len10 (u := 2 * d.length) (by omega)
  refine VLoop.mk PX (fun x => [(0, .ptr 0 0), (1, .sl 3 x.o x.l.length x.c), (5, iv x.i)])
    (fun x => [.cells (rcs v 1 oL d.length cL) T_rostrumref7_Dots, .arr xsL teL, .arr xs te, .arr x.xs T_uint8])
    (fun x => x.i ≤ d.length ∧ Brow x.xs x.o x.c x.l ∧ x.l = l ++ vecB v 7 ++ numB (2 * d.length) ++ rowB (d.take x.i)) (fun x => d.length - x.i)
    ⟨0, ys2, o2, c2, l ++ vecB v 7 ++ numB (2 * d.length)⟩ [0, 1, 2, 4] ⟨⟨Nat.zero_le _, hB2, by simp [rowB]⟩, rfl, rfl, rfl⟩ ?_
  rintro ⟨i, zs, o3, c3, m⟩ ⟨hi, hB, hm⟩ g
  simp only at hi hB hm
  have hml2 : m.length ≤ 1000080 + 20 * i := by
    have h1 := rowB_len (d := d.take i) fun x hx => hdd x (List.mem_of_mem_take hx)
    have h2 : (d.take i).length = i := by rw [List.length_take]; omega
    rw [h2] at h1
    rw [hm]; simp only [List.length_append]; omega
  refine And.intro (fun h => ?_) (fun h => ?_)
  · have h := of_decide_eq_true h
    have hil : i < d.length := by simp only at h; omega
    have hdi := isDot_iff.1 (hdd d[i] (List.getElem_mem hil))
    have hcap : oL + d.length * 2 ≤ xsL.length := by have := hrL.1; have := hrL.2.1; omega
    refine And.intro ⟨Int.natCast_nonneg i, h, hcap⟩ ?_
    refine Exists.intro _ (And.intro (hrL.get0 hil) ?_)
    refine And.intro ⟨Int.natCast_nonneg i, h, hcap⟩ ?_
    refine Exists.intro _ (And.intro (hrL.get1 hil) ?_)
    refine VCall.mk [3] (s_ref1_Num m zs T_uint8 o3 c3 hB (by omega) d[i].1 (by omega)) ⟨rfl, rfl, rfl⟩ ?_
    rintro _ _ ⟨o4, c4, ys4, rfl, rfl, hB4⟩
    have hn4 := numB_len10 (u := 2 * d[i].1.toNat) (by omega)
    refine And.intro rfl (And.intro rfl (And.intro (And.intro ⟨Int.natCast_nonneg i, h, hcap⟩ rfl) (And.intro (Exists.intro _ (And.intro (hrL.get1 hil) rfl)) ?_)))
    refine VCall.mk [4] (s_ref1_Num _ ys4 T_uint8 o4 c4 hB4 (by rw [List.length_append]; omega) d[i].2 (by omega)) ⟨rfl, rfl, rfl⟩ ?_
    rintro _ _ ⟨o5, c5, ys5, rfl, rfl, hB5⟩
    have hw : IntKind.i64.wrap ((i : Int) + 1) = ((i + 1 : Nat) : Int) := wrap64 (by omega)
    refine Exists.intro _ (And.intro hw ?_)
    refine Exists.intro ⟨i + 1, ys5, o5, c5, m ++ numB (2 * d[i].1.toNat) ++ numB (2 * d[i].2.toNat)⟩ (Exists.intro [0, 1, 2, 5] (And.intro ⟨⟨hil, hB5, ?_⟩, by simp only; omega⟩ ⟨rfl, rfl, rfl⟩))
    simp only
    rw [rowB_step hil, hm]; simp only [List.append_assoc]
  · have h := of_decide_eq_false h
    have hil : i = d.length := by simp only at h; omega
    subst hil
    rw [List.take_length] at hm
    have hm2 : m = l ++ putB v d := by rw [hm]; simp only [putB, List.append_assoc]
    subst hm2
    exact VRet.mk [0, 1, 2, 3] (.sl 3 o3 (l ++ putB v d).length c3) [.cells (rcs v 1 oL d.length cL) T_rostrumref7_Dots, .arr xsL teL, .arr xs te, .arr zs T_uint8] ⟨rfl, rfl, rfl⟩ ⟨o3, c3, zs, rfl, rfl, hB⟩
end Go.Proofs

namespace Go.Proofs
open Go Go.V
set_option maxRecDepth 100000
set_option linter.unusedVariables false

/-! ### What the law compares -/
theorem AddR.det {v v2 : Nat → Int} {ms ms2 : DM} {S : Int × Int → Prop} {d : Int × Int} {a b : Bool} {e f : Int} {v' v2' : Nat → Int} {ms' ms2' : DM} (h : AddR v ms S d a e v' ms') (h2 : AddR v2 ms2 S d b f v2' ms2')
    (hv : isDot d.1 d.2 = true → v d.1.toNat = v2 d.1.toNat) (hl : ms.length = ms2.length) : a = b ∧ e = f := by
  rcases h with ⟨h1, rfl, rfl, _⟩ | ⟨h1, h3, rfl, rfl, _⟩ | ⟨h1, h3, h4, h5, rfl, rfl, _⟩ | ⟨h1, h3, h4, rfl, rfl, _⟩ <;>
  rcases h2 with ⟨k1, rfl, rfl, _⟩ | ⟨k1, k3, rfl, rfl, _⟩ | ⟨k1, k3, k4, k5, rfl, rfl, _⟩ | ⟨k1, k3, k4, rfl, rfl, _⟩ <;>
  first
  | exact ⟨rfl, rfl⟩
  | (rw [h1] at k1; exact absurd k1 (by decide))
  | exact absurd h3 k3
  | exact absurd k3 h3
  | (exfalso; have := hv h1; rcases h4 with h4 | h4 <;> omega)
  | (exfalso; have := hv h1; rcases k4 with k4 | k4 <;> omega)
theorem Rises.sorted {l : List (Int × Int)} (h : Rises l) : l.Pairwise (fun a b => ¬ cmpD b a < 0) := by
  refine List.Pairwise.imp ?_ h
  intro a b hab
  rw [lessD_iff] at hab; rw [cmpD_lt]; omega
theorem same_rows {v v2 : Nat → Int} {ms : DM} {l d : List (Int × Int)} {S : Int × Int → Prop} (h : Canon v ms S) (h2 : RC v2 l S) (hs : Srt ms d) : (∀ i, i < 7 → v i = v2 i) ∧ d = l ∧ lenOf v ms = l.length + sumN v2 7 := by
  obtain ⟨u1, u2, u3⟩ := h.uniq h2.can (fun _ => Iff.rfl)
  rw [keysOf_mkD] at u3
  have hd : d = l := Srt.uniq (ms := mkD l) ⟨by rw [keysOf_mkD]; exact hs.1.trans u3, hs.2⟩ ⟨by rw [keysOf_mkD], h2.up.sorted⟩
  refine ⟨u1, hd, ?_⟩
  have : sumN v 7 = sumN v2 7 := by simp [sumN, u1]
  rw [lenOf, this, ← hd, hs.len]
theorem has_congr {v v2 : Nat → Int} (h : ∀ i, i < 7 → v i = v2 i) (r n : Int) : has v r n = has v2 r n := by
  rw [Bool.eq_iff_iff, has_iff, has_iff]
  constructor
  · rintro ⟨h1, h2, h3⟩; exact ⟨h1, h2, by rw [← h _ (by omega)]; exact h3⟩
  · rintro ⟨h1, h2, h3⟩; exact ⟨h1, h2, by rw [h _ (by omega)]; exact h3⟩
theorem same_has {v v2 : Nat → Int} {ms : DM} {l : List (Int × Int)} {S : Int × Int → Prop} (h : Canon v ms S) (h2 : RC v2 l S) (r n : Int) : (has v r n || inM ms (r, n)) = (has v2 r n || decide ((r, n) ∈ l)) := by
  rw [Bool.eq_iff_iff, Bool.or_eq_true, Bool.or_eq_true, ← h.seen (r, n)]
  have := h2.can.seen (r, n)
  rw [inM_mkD] at this
  rw [this]; simp
theorem neq7 {v v2 : Nat → Int} (h : ∀ i, i < 7 → v i = v2 i) : (decide (v 0 = v2 0) && (decide (v 1 = v2 1) && (decide (v 2 = v2 2) && (decide (v 3 = v2 3) && (decide (v 4 = v2 4) && (decide (v 5 = v2 5) && decide (v 6 = v2 6))))))) = true := by
  simp [h 0, h 1, h 2, h 3, h 4, h 5, h 6]
theorem putB_congr {v v2 : Nat → Int} (h : ∀ i, i < 7 → v i = v2 i) (d : List (Int × Int)) : putB v d = putB v2 d := by
  simp [putB, vecB, h]
theorem RC.zero : RC (fun _ => 0) [] (Seen []) := ⟨Canon.zero.congr fun x => by simp [Seen], List.Pairwise.nil⟩

/-! ### Bytes as a text -/
def strOf (l : List Int) : ByteArray := ⟨(l.map fun n => UInt8.ofNat n.toNat).toArray⟩
theorem strOf_size (l : List Int) : (strOf l).size = l.length := by simp [strOf, ByteArray.size]
theorem strOf_cells {l : List Int} (h : ∀ b ∈ l, 0 ≤ b ∧ b < 256) : (strOf l).data.toList.map (fun b => Value.int .u8 b.toNat) = l.map (Value.int .u8) := by
  simp only [strOf, List.map_map]
  refine List.map_congr_left fun b hb => ?_
  have := h b hb
  simp only [Function.comp]
  congr 1
  rw [UInt8.toNat_ofNat']
  omega
theorem numB_byte : ∀ (k u : Nat), u < 128 ^ (k + 1) → ∀ b ∈ numB u, 0 ≤ b ∧ b < 256
  | 0, u, h, b, hb => by
    rw [numB_lt (by simpa using h)] at hb
    simp at hb h; omega
  | k + 1, u, h, b, hb => by
    by_cases h1 : u < 128
    · rw [numB_lt h1] at hb; simp at hb; omega
    · rw [numB_ge h1] at hb
      rcases List.mem_cons.1 hb with rfl | hb
      · omega
      · exact numB_byte k (u / 128) (by rw [Nat.div_lt_iff_lt_mul (by omega)]; rw [Nat.pow_succ] at h; omega) b hb
theorem numB_byte10 {u : Nat} (h : u < 18446744073709551616) : ∀ b ∈ numB u, 0 ≤ b ∧ b < 256 := numB_byte 9 u (by omega)
theorem vecB_byte {v : Nat → Int} (hv : ∀ r, r < 7 → 0 ≤ v r ∧ v r ≤ 1099511627776) : ∀ n, n ≤ 7 → ∀ b ∈ vecB v n, 0 ≤ b ∧ b < 256
  | 0, _, b, hb => by simp [vecB] at hb
  | n + 1, h, b, hb => by
    have := hv n (by omega)
    rcases List.mem_append.1 hb with hb | hb
    · exact vecB_byte hv n (by omega) b hb
    · exact numB_byte10 (by omega) b hb
theorem putB_byte {v : Nat → Int} {d : List (Int × Int)} (hv : ∀ r, r < 7 → 0 ≤ v r ∧ v r ≤ 1099511627776) (hd : ∀ x ∈ d, isDot x.1 x.2 = true) (hl : d.length ≤ 1000000) : ∀ b ∈ putB v d, 0 ≤ b ∧ b < 256 := by
  intro b hb
  simp only [putB, List.mem_append, rowB, List.mem_flatMap] at hb
  rcases hb with (hb | hb) | ⟨x, hx, hb⟩
  · exact vecB_byte hv 7 (Nat.le_refl _) b hb
  · exact numB_byte10 (by omega) b hb
  · have := isDot_iff.1 (hd x hx)
    rcases hb with hb | hb
    · exact numB_byte10 (by omega) b hb
    · exact numB_byte10 (by omega) b hb
theorem brow_text {xs : List Value} {o c : Nat} {l : List Int} (h : Brow xs o c l) (hb : ∀ b ∈ l, 0 ≤ b ∧ b < 256) : some ((xs.drop o).take (l.length * 1), l.length) = some ((strOf l).data.toList.map (fun b => Value.int .u8 b.toNat), (strOf l).size) := by
  rw [h.take1, strOf_cells hb, strOf_size]
end Go.Proofs

