/- Part of the proof that the statement named in the last file holds: lemmas of the prover's own. No conditions. -/
import Derived.Test.YtmidamdjpabpbaaDB
import Derived.Test.YtmidamdjpabpbaaDA
import Derived.Test.YtmidamdjpabpbaaVD
import Derived.Test.YtmidamdjpabpbaaRows
namespace Go.Proofs
open Go Go.V
set_option maxRecDepth 100000
set_option linter.unusedVariables false

structure OX where
  i : Nat
  va : Nat → Int
  ma : DM
  ca : Nat
  vb : Nat → Int
  mb : DM
  cb : Nat
  vc : Nat → Int
  mc : DM
  cc : Nat
structure DX where
  i : Nat
  v : Nat → Int
  ms : DM
  c : Nat

set_option maxHeartbeats 4000000 in
theorem s_DotsOrder (l m : List (Int × Int)) (xs xs2 : List Value) (o o2 c c2 : Nat) (te te2 : TypeId) (hr0 : 0 < l.length → Row xs o l.length l) (hr2 : 0 < m.length → Row xs2 o2 m.length m) :
    Ctr Try.prog F_rostrumlaw8_DotsOrder [.sl 0 o l.length c, .sl 1 o2 m.length c2] [.ro xs te, .ro xs2 te2] (fun x H => x = bv true ∧ H = [.ro xs te, .ro xs2 te2]) := by
  refine i_rostrumlaw8_DotsOrder.spec follows ?_
  refine VCall.mk [] s_awake ⟨rfl, rfl, rfl⟩ ?_
  rintro _ _ ⟨rfl, rfl⟩
  refine And.intro (fun h => absurd h (by decide)) (fun _ => ?_)
  refine And.intro (fun h1 => ?_) (fun h1 => ?_)
  rotate_left 1
  · exact VRet.mk [0, 1] (bv _) [.ro xs te, .ro xs2 te2] ⟨rfl, rfl, rfl⟩ ⟨rfl, rfl⟩
  refine And.intro (fun h => ?_) (fun h2 => ?_)
  · exact VRet.mk [0, 1] (bv _) [.ro xs te, .ro xs2 te2] ⟨rfl, rfl, rfl⟩ ⟨rfl, rfl⟩
  have hl60 : l.length ≤ 60 := by have := of_decide_eq_false h1; omega
  have hm60 : m.length ≤ 60 := by have := of_decide_eq_false h2; omega
  refine VCall.mk [] s_dots_New ⟨rfl, rfl, rfl⟩ ?_
  rintro _ _ ⟨rfl, rfl⟩
  refine VCall.mk [] s_dots_New ⟨rfl, rfl, rfl⟩ ?_
  rintro _ _ ⟨rfl, rfl⟩
  refine VCall.mk [] s_dots_New ⟨rfl, rfl, rfl⟩ ?_
  rintro _ _ ⟨rfl, rfl⟩
  refine VCall.mk [] s_dots_New ⟨rfl, rfl, rfl⟩ ?_
  rintro _ _ ⟨rfl, rfl⟩
  refine VLoop.mk OX (fun x => [(0, .sl 0 o l.length c), (1, .sl 1 o2 m.length c2), (5, .ptr 3 0), (6, .ptr 5 0), (7, .ptr 7 0), (8, .ptr 9 0), (9, iv x.i)])
    (fun x => [.ro xs te, .ro xs2 te2, dmap x.ma x.ca, .cells (dcs x.va 2) T_dots_Dots, dmap x.mb x.cb, .cells (dcs x.vb 4) T_dots_Dots, dmap x.mc x.cc, .cells (dcs x.vc 6) T_dots_Dots, dmap [] 0, .cells (dcs (fun _ => 0) 8) T_dots_Dots])
    (fun x => x.i ≤ l.length ∧ (Canon x.va x.ma (Seen (l.take x.i)) ∧ MOK x.ma x.ca) ∧ (Canon x.vb x.mb (Seen (l.reverse.take x.i)) ∧ MOK x.mb x.cb) ∧ (Canon x.vc x.mc (Seen (l.take x.i)) ∧ MOK x.mc x.cc))
    (fun x => l.length - x.i) ⟨0, fun _ => 0, [], 0, fun _ => 0, [], 0, fun _ => 0, [], 0⟩ [0, 1, 2, 3, 4, 5, 6, 7, 8, 9]
    ⟨⟨Nat.zero_le _, ⟨canon_start _, MOK.nil 0⟩, ⟨canon_start _, MOK.nil 0⟩, ⟨canon_start _, MOK.nil 0⟩⟩, rfl, rfl, rfl⟩ ?_
  rintro ⟨i, va, ma, ca, vb, mb, cb, vc, mc, cc⟩ ⟨hi, ⟨hA, hMA⟩, ⟨hB, hMB⟩, ⟨hC, hMC⟩⟩ g
  simp only at hi hA hMA hB hMB hC hMC
  refine And.intro (fun h => ?_) (fun h => ?_)
  · have h := of_decide_eq_true h
    have hil : i < l.length := by simp only at h; omega
    have hilr : i < l.reverse.length := by simpa using hil
    have hr : Row xs o l.length l := hr0 (by omega)
    have hrl : o + l.length * 2 ≤ xs.length := hr.2.1
    have hRBe := rev_get hil
    refine And.intro ⟨Int.natCast_nonneg i, h, hrl⟩ ?_
    refine Exists.intro _ (And.intro (hr.cut i hil) ?_)
    refine VCall.mk [3, 2] (s_Add va ma ca _ hA hMA _ _) ⟨rfl, rfl, rfl⟩ ?_
    rintro _ _ ⟨ra, re, va', ma', ca', rfl, rfl, hRA, hMA'⟩
    have hwn : IntKind.i64.wrap ((l.length : Int) - 1) = ((l.length - 1 : Nat) : Int) := by rw [wrap64 (by omega)]; omega
    refine Exists.intro _ (And.intro hwn ?_)
    clear hwn
    have hwj : IntKind.i64.wrap (((l.length - 1 : Nat) : Int) - (i : Int)) = ((l.length - 1 - i : Nat) : Int) := by rw [wrap64 (by omega)]; omega
    refine Exists.intro _ (And.intro hwj ?_)
    clear hwj
    refine And.intro ⟨Int.natCast_nonneg _, by omega, hrl⟩ ?_
    refine Exists.intro _ (And.intro (hr.cut (l.length - 1 - i) (by omega)) ?_)
    refine VCall.mk [5, 4] (s_Add vb mb cb _ hB hMB _ _) ⟨rfl, rfl, rfl⟩ ?_
    rintro _ _ ⟨rb, re2, vb', mb', cb', rfl, rfl, hRB, hMB'⟩
    refine And.intro ⟨Int.natCast_nonneg i, h, hrl⟩ ?_
    refine Exists.intro _ (And.intro (hr.cut i hil) ?_)
    refine VCall.mk [7, 6] (s_Add vc mc cc _ hC hMC _ _) ⟨rfl, rfl, rfl⟩ ?_
    rintro _ _ ⟨rc, re3, vc', mc', cc', rfl, rfl, hRC, hMC'⟩
    have hRB' := hRBe ▸ hRB
    have hwi : IntKind.i64.wrap ((i : Int) + 1) = ((i + 1 : Nat) : Int) := wrap64 (by omega)
    refine Exists.intro _ (And.intro hwi ?_)
    clear hwi
    refine Exists.intro ⟨i + 1, va', ma', ca', vb', mb', cb', vc', mc', cc'⟩ (Exists.intro [0, 1, 2, 3, 4, 5, 6, 7, 8, 9] (And.intro ⟨⟨hil, ⟨hA.addL hil (by omega) hRA, hMA'⟩, ⟨hB.addL hilr (by simp; omega) hRB', hMB'⟩, ⟨hC.addL hil (by omega) hRC, hMC'⟩⟩, by simp only; omega⟩ ⟨rfl, rfl, rfl⟩))
  · have h := of_decide_eq_false h
    have hil : i = l.length := by simp only at h; omega
    subst hil
    rw [List.take_length] at hA hC
    rw [show l.length = l.reverse.length by simp, List.take_length] at hB
    refine VLoop.mk DX (fun x => [(0, .sl 0 o l.length c), (1, .sl 1 o2 m.length c2), (5, .ptr 3 0), (6, .ptr 5 0), (7, .ptr 7 0), (8, .ptr 9 0), (10, iv x.i)])
      (fun x => [.ro xs te, .ro xs2 te2, dmap ma ca, .cells (dcs va 2) T_dots_Dots, dmap mb cb, .cells (dcs vb 4) T_dots_Dots, dmap mc cc, .cells (dcs vc 6) T_dots_Dots, dmap x.ms x.c, .cells (dcs x.v 8) T_dots_Dots])
      (fun x => x.i ≤ m.length ∧ Canon x.v x.ms (Seen (m.take x.i)) ∧ MOK x.ms x.c)
      (fun x => m.length - x.i) ⟨0, fun _ => 0, [], 0⟩ [0, 1, 2, 3, 4, 5, 6, 7, 8, 9]
      ⟨⟨Nat.zero_le _, canon_start _, MOK.nil 0⟩, rfl, rfl, rfl⟩ ?_
    rintro ⟨i, vd, md, cd⟩ ⟨hi, hD, hMD⟩ g
    simp only at hi hD hMD
    refine And.intro (fun h => ?_) (fun h => ?_)
    · have h := of_decide_eq_true h
      have hil : i < m.length := by simp only at h; omega
      have hr : Row xs2 o2 m.length m := hr2 (by omega)
      have hwi : IntKind.i64.wrap ((i : Int) + 1) = ((i + 1 : Nat) : Int) := wrap64 (by omega)
      refine And.intro ⟨Int.natCast_nonneg i, h, hr.2.1⟩ ?_
      refine Exists.intro _ (And.intro (hr.cut i hil) ?_)
      refine VCall.mk [9, 8] (s_Add vd md cd _ hD hMD _ _) ⟨rfl, rfl, rfl⟩ ?_
      rintro _ _ ⟨rd, re, vd', md', cd', rfl, rfl, hRD, hMD'⟩
      refine Exists.intro _ (And.intro hwi ?_)
      exact Exists.intro ⟨i + 1, vd', md', cd'⟩ (Exists.intro [0, 1, 2, 3, 4, 5, 6, 7, 8, 9] (And.intro ⟨⟨hil, hD.addL hil (by omega) hRD, hMD'⟩, by simp only; omega⟩ ⟨rfl, rfl, rfl⟩))
    · have h := of_decide_eq_false h
      have hil : i = m.length := by simp only at h; omega
      subst hil
      rw [List.take_length] at hD
      have bA := hA.len_list (L := l) (fun d hd => hd.2)
      have bC := hC.len_list (L := l) (fun d hd => hd.2)
      have bD := hD.len_list (L := m) (fun d hd => hd.2)
      have lA := hA.len_ms
      have lC := hC.len_ms
      have lD := hD.len_ms
      have hAB := hA.eqM hB (fun d => by simp [Seen])
      refine VCall.mk [3, 2, 5, 4] (s_Same va vb ma mb ca cb hMA) ⟨rfl, rfl, rfl⟩ ?_
      rintro _ _ ⟨b, rfl, hb, rfl⟩
      obtain rfl : b = true := hb.2 hAB
      refine And.intro (fun _ => ?_) (fun h => absurd h (by decide))
      refine VCall.mk [7, 6, 9, 8] (s_Merge vc vd mc md cc cd _ _ hC hD hMC hMD (by omega) (by omega)) ⟨rfl, rfl, rfl⟩ ?_
      rintro _ _ ⟨vc', mc', cc', hC', hMC', hcase⟩
      have bC' := hC'.len_list (L := l ++ m) (fun d hd => by
        rcases hd with hd | hd
        · exact List.mem_append.2 (.inl hd.2)
        · exact List.mem_append.2 (.inr hd.2))
      have lC' := hC'.len_ms
      simp only [List.length_append] at bC'
      rcases hcase with ⟨hbig, _⟩ | ⟨_, rfl, rfl⟩
      · omega
      refine And.intro (fun _ => ?_) (fun h => absurd h (by decide))
      refine VCall.mk [9, 8, 3, 2] (s_Merge vd va md ma cd ca _ _ hD hA hMD hMA (by omega) (by omega)) ⟨rfl, rfl, rfl⟩ ?_
      rintro _ _ ⟨vd', md', cd', hD', hMD', hcase⟩
      have bD' := hD'.len_list (L := m ++ l) (fun d hd => by
        rcases hd with hd | hd
        · exact List.mem_append.2 (.inl hd.2)
        · exact List.mem_append.2 (.inr hd.2))
      have lD' := hD'.len_ms
      simp only [List.length_append] at bD'
      rcases hcase with ⟨hbig, _⟩ | ⟨_, rfl, rfl⟩
      · omega
      refine And.intro (fun h => absurd h (by decide)) (fun _ => ?_)
      have hCD := hC'.eqM hD' (fun d => by constructor <;> exact fun h => h.symm)
      refine VCall.mk [7, 10, 9, 11] (s_Same vc' vd' mc' md' cc' cd' hMC') ⟨rfl, rfl, rfl⟩ ?_
      rintro _ _ ⟨b, rfl, hb, rfl⟩
      obtain rfl : b = true := hb.2 hCD
      refine And.intro (fun _ => ?_) (fun h => absurd h (by decide))
      refine VCall.mk [7, 10] (s_Len vc' mc' cc' hC'.lo (by omega)) ⟨rfl, rfl, rfl⟩ ?_
      rintro _ _ ⟨rfl, rfl⟩
      refine VCall.mk [3, 2] (s_Len va ma ca hA.lo (by omega)) ⟨rfl, rfl, rfl⟩ ?_
      rintro _ _ ⟨rfl, rfl⟩
      refine VRet.mk [0, 1] (bv _) [.ro xs te, .ro xs2 te2] ⟨rfl, rfl, rfl⟩ ⟨?_, rfl⟩
      show bv _ = bv _
      have hle := hA.len_le hC' (fun d hd => .inl hd)
      simp [hle]
end Go.Proofs

namespace Go.Proofs.Ytmidamdjpabpbaa
open Go.ChangeShapes Go.WideShapes Go.ChangeAt Go.RowKit Go.V Go.Joins
set_option maxRecDepth 100000

theorem own : ownKnob Try.prog.godebug = none := by kernel_rfl
theorem laidOut : laidOutB Try.prog = true := by kernel_rfl

/-- A slice of dots that came in. -/
theorem open_dots {H : Type} {enc : TypeId × Value → H} {W : World} {base : Nat} {a : Option Addr} {len cap : Nat} {d : DataW H} {p : List MemPlace}
    (hval : Value.okWide Try.prog W .any base T_sl_api_Dot (.slice a len cap)) (h : DataW.Trod enc Try.prog W 0 (fun _ => true) true T_sl_api_Dot (.slice a len cap) d p) :
    ∃ (ds : List (Int × Int)) (xs : List Value) (te : TypeId) (o : Nat) (bo : Option Nat), ds.length = len ∧ roOK W bo xs te ∧ bo.map (fun b => (⟨b, o, none⟩ : Addr)) = a ∧ len ≤ cap ∧
      (∀ x ∈ ds, (Lit.int .i64 x.1).wf = true ∧ (Lit.int .i64 x.2).wf = true) ∧ (0 < ds.length → Row xs o ds.length ds) := by
  obtain ⟨ds, xs, te, o, bo, h1, h2, h3, h4, h5, h6⟩ := open_pairs (k0 := .i64) (k1 := .i64) Try.underlying22 Try.underlying24 (by kernel_rfl) rfl rfl (by kernel_rfl) (by kernel_rfl) Try.underlying3 Try.underlying2 hval h
  exact ⟨ds, xs, te, o, bo, h1, h2, h3, h4, h5, fun hp => ⟨Nat.le_refl _, h6 hp⟩⟩

end Go.Proofs.Ytmidamdjpabpbaa

namespace Go.Proofs.Ytmidamdjpabpbaa
open Go.ChangeShapes Go.WideShapes Go.ChangeAt Go.RowKit Go.V Go.Joins
set_option maxRecDepth 100000

theorem dotsOrder_lifted (os : Os) (started : os.Started) (H : Type) (enc : TypeId × Value → H) :
    ReturnsInHanded {} Try.checked os 4 .any (Rows.dotsOrderSpec.pre6 enc Try.prog Try.f4 Rows.dotsOrderRow.domain false) (Rows.dotsOrderSpec.post enc Try.prog Try.f4 false true false false) := by
  refine returnsInHanded_of_change (C := Try.checked) own started (by kernel_rfl) Try.func4
    (ChangeSpec.witness6 (enc := enc) (C := Try.checked) false ⟨#[], #[.slice none 0 0, .slice none 0 0], []⟩ 8 (by kernel_rfl) (by kernel_rfl) (by kernel_rfl) (by kernel_rfl)) ?_
  intro W base args ds gs before hval0 hW hcnd _
  have hval : ∀ (j : Nat) t v, Try.f4.params[j]? = some t → args[j]? = some v → Value.okWide Try.prog W .any base t v := hval0
  have hW' := hW
  obtain ⟨p, q, hA0, hV, rfl, hfz, hnd⟩ := hW
  have hA : DataW.TrodAll enc Try.prog W 0 (fun _ => true) true Try.f4.params.toList args.toList ds p := hA0
  rw [Try.params4] at hA hval
  obtain ⟨v0, vs0, d0, ds0, p0, q0, hargs, rfl, rfl, h0, r0⟩ := trodAll_cons hA
  obtain ⟨v1, vs1, d1, ds1, p1, q1, rfl, rfl, rfl, h1, r1⟩ := trodAll_cons r0
  obtain ⟨rfl, rfl, rfl⟩ := trodAll_nil r1
  obtain rfl : args = #[v0, v1] := by cases args; simp_all
  obtain ⟨rfl, rfl⟩ := trodVars_none hV
  have k0 := h0
  have lt0 : ∀ x ∈ p0, x.block < W.heap.size := by obtain ⟨m, hm⟩ := k0; exact DataW.trod_lt m _ _ _ hm
  obtain ⟨a0, len0, cap0, rfl⟩ := okWide_slice Try.underlying22 (hval 0 22 v0 rfl rfl)
  obtain ⟨l0, xs0, te0, o0, bo0, rfl, hro0, rfl, hlc0, hwf0, hrow0⟩ := open_dots (hval 0 22 _ rfl rfl) h0
  have k1 := h1
  have lt1 : ∀ x ∈ p1, x.block < W.heap.size := by obtain ⟨m, hm⟩ := k1; exact DataW.trod_lt m _ _ _ hm
  obtain ⟨a1, len1, cap1, rfl⟩ := okWide_slice Try.underlying22 (hval 1 22 v1 rfl rfl)
  obtain ⟨l1, xs1, te1, o1, bo1, rfl, hro1, rfl, hlc1, hwf1, hrow1⟩ := open_dots (hval 1 22 _ rfl rfl) h1
  clear hA0 hval0
  refine Calls.mono (ctr_below (s_DotsOrder l0 l1 xs0 xs1 o0 o1 cap0 cap1 te0 te1 hrow0 hrow1) W (fun k => match k with | 0 => bo0 | 1 => bo1 | _ => none) ?_ rfl rfl (r := .bool true) ?_) fun e W' ⟨he, bel⟩ => ?_
  · intro k so hk
    match k with
    | 0 => cases hk; exact ⟨rfl, hro0⟩
    | 1 => cases hk; exact ⟨rfl, hro1⟩
    | k + 2 => simp at hk
  · rintro v H' ρ' ⟨rfl, _⟩; rfl
  subst he
  exact ⟨_, rfl, _, _, _, [], _, [], hW', trodAll_mk1 (shut_bool Try.underlying4 _), (trodAll_cons_mk (Below.trod laidOut (by kernel_rfl) (of_decide_eq_true (by kernel_rfl)) k0 bel lt0) (trodAll_cons_mk (Below.trod laidOut (by kernel_rfl) (of_decide_eq_true (by kernel_rfl)) k1 bel lt1) trodAll_mk0)), rfl, bel.frame _, fun h => by cases h⟩

theorem dotsOrder_holds : Rows.DotsOrderSaid :=
  OpenClaim.holds_of_wide 4 Try.f4 rfl rfl rfl rfl rfl rfl rfl ⟨rfl, rfl, rfl, rfl, rfl⟩ rfl rfl rfl rfl rfl (by kernel_rfl) Try.func4 (by kernel_rfl)
    (of_decide_eq_true (by kernel_rfl)) (by unfold Func.isWrapper; first | (rw [if_pos (by decide +kernel)]; kernel_rfl) | (rw [if_neg (by decide +kernel)]; exact ⟨rfl, rfl⟩))
    (fun os started H enc _ => dotsOrder_lifted os started H enc)
end Go.Proofs.Ytmidamdjpabpbaa

