/- Part of the proof that the statement named in the last file holds: lemmas of the prover's own. No conditions. -/
import Derived.Test.YtmidamdjpabpbaaDE
import Derived.Test.YtmidamdjpabpbaaDA
import Derived.Test.YtmidamdjpabpbaaVD
import Derived.Test.YtmidamdjpabpbaaRows
namespace Go.Proofs
open Go Go.V
set_option maxRecDepth 100000
set_option linter.unusedVariables false

theorem AddR.bad {v : Nat → Int} {ms : DM} {S : Int × Int → Prop} {d : Int × Int} {a : Bool} {e : Int} {v' : Nat → Int} {ms' : DM} (h : AddR v ms S d a e v' ms') (hd : isDot d.1 d.2 = false) : a = false ∧ e = 1 ∧ v' = v ∧ ms' = ms := by
  rcases h with ⟨_, h⟩ | ⟨h1, _⟩ | ⟨h1, _⟩ | ⟨h1, _⟩
  · exact h
  all_goals rw [hd] at h1; cases h1
theorem AddR.again {v : Nat → Int} {ms : DM} {S : Int × Int → Prop} {d : Int × Int} {a : Bool} {e : Int} {v' : Nat → Int} {ms' : DM} (h : AddR v ms S d a e v' ms') (hd : isDot d.1 d.2 = true) (hs : S d) : a = false ∧ e = 0 ∧ v' = v ∧ ms' = ms := by
  rcases h with ⟨h1, _⟩ | ⟨_, _, h⟩ | ⟨_, h1, _⟩ | ⟨_, h1, _⟩
  · rw [hd] at h1; cases h1
  · exact h
  · exact absurd hs h1
  · exact absurd hs h1
theorem canon15 : Canon (fun _ => 0) [((1, 5), (), 0)] (fun x => x = (1, 5) ∨ False) where
  lo := fun r _ => ⟨by omega, by omega⟩
  nd := by simp
  seen := fun d => by
    have : has (fun _ => 0) d.1 d.2 = false := by
      cases h : has (fun _ => 0) d.1 d.2 with
      | false => rfl
      | true => have := (has_iff.1 h).2; omega
    rw [this]
    unfold inM
    rw [get_cons, get_nil]
    by_cases hd : d = (1, 5) <;> simp [hd]
  far := fun d h => by
    unfold inM at h
    rw [get_cons, get_nil] at h
    by_cases hd : d = (1, 5)
    · subst hd; exact ⟨isDot_of (by simp) (by simp), by simp⟩
    · simp [hd] at h
  gap := fun d h => by
    unfold inM at h
    rw [get_cons, get_nil] at h
    by_cases hd : d = (1, 5)
    · subst hd; simp
    · simp [hd] at h
def bytes1 : List Int := [0, 0, 0, 0, 0, 0, 0, 2, 2, 10]
def bytes2 : List Int := [0, 0, 0, 0, 0, 0, 0, 2, 0, 2]
theorem putB_known : putB (fun _ => 0) [(1, 5)] = bytes1 := by
  have h0 : numB 0 = [0] := numB_lt (by omega)
  have h2 : numB 2 = [2] := numB_lt (by omega)
  have h10 : numB 10 = [10] := numB_lt (by omega)
  simp [putB, vecB, rowB, h0, h2, h10, bytes1]
theorem getD_known : ∃ v, getD bytes1 = some (v, [(1, 5)], []) ∧ ∀ i, i < 7 → v i = 0 := by
  refine ⟨_, rfl, ?_⟩
  intro i hi
  match i, hi with | 0, _ => rfl | 1, _ => rfl | 2, _ => rfl | 3, _ => rfl | 4, _ => rfl | 5, _ => rfl | 6, _ => rfl
theorem getD_bytes2 : getD bytes2 = none := by rfl
theorem getD_nil : getD [] = none := by rfl

set_option maxHeartbeats 4000000 in
theorem s_DotsKnown : Ctr Try.prog F_rostrumlaw8_DotsKnown [] [] (fun x H => x = bv true ∧ H = []) := by
  refine i_rostrumlaw8_DotsKnown.spec follows ?_
  refine VCall.mk [] s_awake ⟨rfl, rfl, rfl⟩ ?_
  rintro _ _ ⟨rfl, rfl⟩
  refine And.intro (fun h => absurd h (by decide)) (fun _ => ?_)
  refine VCall.mk [] s_dots_New ⟨rfl, rfl, rfl⟩ ?_
  rintro _ _ ⟨rfl, rfl⟩
  refine VCall.mk [1, 0] (s_Add (fun _ => 0) [] 0 (fun _ => False) Canon.zero (MOK.nil 0) 7 1) ⟨rfl, rfl, rfl⟩ ?_
  rintro _ _ ⟨a, e, v1, ms1, c1, rfl, rfl, hR, hM1⟩
  obtain ⟨rfl, rfl, rfl, rfl⟩ := hR.bad (by decide)
  refine VCall.mk [1, 0] (s_Add (fun _ => 0) [] c1 (fun _ => False) Canon.zero hM1 0 0) ⟨rfl, rfl, rfl⟩ ?_
  rintro _ _ ⟨a, e, v1, ms1, c2, rfl, rfl, hR, hM2⟩
  obtain ⟨rfl, rfl, rfl, rfl⟩ := hR.bad (by decide)
  refine VCall.mk [1, 0] (s_Add (fun _ => 0) [] c2 (fun _ => False) Canon.zero hM2 0 1099511627777) ⟨rfl, rfl, rfl⟩ ?_
  rintro _ _ ⟨a, e, v1, ms1, c3, rfl, rfl, hR, hM3⟩
  obtain ⟨rfl, rfl, rfl, rfl⟩ := hR.bad (by decide)
  refine VCall.mk [1, 0] (s_Add (fun _ => 0) [] c3 (fun _ => False) Canon.zero hM3 1 5) ⟨rfl, rfl, rfl⟩ ?_
  rintro _ _ ⟨a, e, v1, ms1, c4, rfl, rfl, hR, hM4⟩
  obtain ⟨rfl, rfl, hC⟩ := hR.fresh (isDot_of (by simp) (by simp)) (by simp) (by simp)
  obtain ⟨hv1, hm1, hk1⟩ := hC.uniq canon15 (fun _ => Iff.rfl)
  have hl1 : ms1.length = 1 := by have := hk1.length_eq; simpa [keysOf] using this
  refine VCall.mk [1, 0] (s_Add v1 ms1 c4 _ hC hM4 1 5) ⟨rfl, rfl, rfl⟩ ?_
  rintro _ _ ⟨a, e, v2, ms2, c5, rfl, rfl, hR, hM5⟩
  obtain ⟨rfl, rfl, rfl, rfl⟩ := hR.again (isDot_of (by simp) (by simp)) (.inl rfl)
  refine VCall.nil T_uint8 [1] [] ⟨rfl, rfl⟩ (VCall.mk [1, 0, 2] (s_dots_Put _ _ c5 _ hC hM5 (by omega) [] [] T_uint8 0 0 brow_nil (by simp)) ⟨rfl, rfl, rfl⟩ ?_)
  rintro _ _ ⟨d, hs, o6, c6, ys6, rfl, rfl, hB6⟩
  have hd : d = [(1, 5)] := List.perm_singleton.1 (hs.1.trans hk1)
  subst hd
  have hbytes : [] ++ putB _ [(1, 5)] = bytes1 := (List.nil_append _).trans ((putB_congr hv1 _).trans putB_known)
  rw [hbytes] at hB6
  have hb1 : ∀ b ∈ bytes1, 0 ≤ b ∧ b < 256 := by decide
  have hlen1 : ([] ++ putB _ [(1, 5)]).length = bytes1.length := congrArg List.length hbytes
  refine VCall.mk [3] (s_Read bytes1 ys6 T_uint8 o6 c6 hB6 (by decide)) ⟨?_, rfl, rfl⟩ ?_
  · rw [hlen1]; rfl
  rintro _ _ ⟨o7, c7, ys7, rfl, rfl, hB7⟩
  obtain ⟨vz, hgz, hvz⟩ := getD_known
  refine VCall.mk [5, 4] (s_Get bytes1 o7 c7 ys7 T_uint8 hB7 hb1) ⟨rfl, rfl, rfl⟩ ?_
  rintro _ _ (⟨v3, ds, l3, hg, rfl, o8, c8, ms3, cm3, rfl, hB8, _, hM8, hK8, hA8⟩ | ⟨hg, _⟩)
  rotate_left 1
  · rw [hgz] at hg; cases hg
  rw [hgz] at hg
  simp only [Option.some.injEq, Prod.mk.injEq] at hg
  obtain ⟨rfl, rfl, rfl⟩ := hg
  refine And.intro (fun _ => ?_) (fun h => absurd h (by decide))
  refine And.intro (fun _ => ?_) (fun h => absurd h (by decide))
  refine And.intro (fun _ => ?_) (fun h => absurd h (by decide))
  refine And.intro (fun _ => ?_) (fun h => absurd h (by decide))
  refine VCall.mk [1, 0, 7, 6] (s_Same _ _ _ ms3 c5 cm3 hM5) ⟨rfl, rfl, rfl⟩ ?_
  rintro _ _ ⟨b, rfl, hb, rfl⟩
  have hl3 : ms3.length = 1 := by
    have : (keysOf ms3).Perm [(1, 5)] := (List.perm_ext_iff_of_nodup hK8 (by simp)).2 fun x => by rw [show x ∈ ms3.map (·.1) ↔ inM ms3 x = true from mem_keysOf, hA8]
    have := this.length_eq; simpa [keysOf] using this
  obtain rfl : b = true := hb.2 ⟨fun i hi => (hv1 i hi).trans (hvz i hi).symm, hl1.trans hl3.symm, fun x hx => by
    rw [hm1, inM_iff] at hx
    obtain ⟨y, hy, rfl⟩ := hx
    simp at hy; subst hy
    exact (hA8 _).2 (by simp)⟩
  refine And.intro (fun _ => ?_) (fun h => absurd h (by decide))
  refine VCall.mk [5, 4] (s_End o8 ([] : List Int).length c8 false ys7 T_uint8) ⟨rfl, rfl, rfl⟩ ?_
  rintro _ _ ⟨rfl, rfl⟩
  refine And.intro (fun _ => ?_) (fun h => absurd h (by decide))
  have hx2 : Brow (bytes2.map (Value.int .u8)) 0 10 bytes2 := ⟨by decide, by decide, rfl⟩
  refine VCall.mk [8] (s_Read bytes2 (bytes2.map (Value.int .u8)) T_uint8 0 10 hx2 (by decide)) ⟨rfl, rfl, rfl⟩ ?_
  rintro _ _ ⟨o9, c9, ys9, rfl, rfl, hB9⟩
  refine VCall.mk [10, 9] (s_Get bytes2 o9 c9 ys9 T_uint8 hB9 (by decide)) ⟨rfl, rfl, rfl⟩ ?_
  rintro _ _ (⟨_, _, _, hg, _⟩ | ⟨_, rfl, hL⟩)
  · rw [getD_bytes2] at hg; cases hg
  have hH : (has v2 1 4 || inM ms2 (1, 4)) = false := by
    rw [has_congr hv1, hm1]; decide
  rcases hL with ⟨oa, na, ca, ba, rfl⟩ | rfl
  · refine VCall.nil T_uint8 [0] [] ⟨rfl, rfl⟩ (VCall.mk [11] (s_Read [] [] T_uint8 0 0 brow_nil (by simp)) ⟨rfl, rfl, rfl⟩ ?_)
    rintro _ _ ⟨ob, cb, ysb, rfl, rfl, hBb⟩
    refine VCall.mk [13, 12] (s_Get [] ob cb ysb T_uint8 hBb (by simp)) ⟨rfl, rfl, rfl⟩ ?_
    rintro _ _ (⟨_, _, _, hg, _⟩ | ⟨_, rfl, hL⟩)
    · rw [getD_nil] at hg; cases hg
    rcases hL with ⟨od, nd, cd, bd, rfl⟩ | rfl
    · refine VCall.mk [1, 0] (s_dots_Dots_Has v2 ms2 c5 1 4) ⟨rfl, rfl, rfl⟩ ?_
      rintro _ _ ⟨rfl, rfl⟩
      refine VRet.mk [] (bv _) [] ⟨rfl, rfl, rfl⟩ ⟨?_, rfl⟩
      show bv _ = bv _
      rw [hH]; rfl
    · refine VCall.mk [1, 0] (s_dots_Dots_Has v2 ms2 c5 1 4) ⟨rfl, rfl, rfl⟩ ?_
      rintro _ _ ⟨rfl, rfl⟩
      refine VRet.mk [] (bv _) [] ⟨rfl, rfl, rfl⟩ ⟨?_, rfl⟩
      show bv _ = bv _
      rw [hH]; rfl
  · refine VCall.nil T_uint8 [0] [] ⟨rfl, rfl⟩ (VCall.mk [12] (s_Read [] [] T_uint8 0 0 brow_nil (by simp)) ⟨rfl, rfl, rfl⟩ ?_)
    rintro _ _ ⟨ob, cb, ysb, rfl, rfl, hBb⟩
    refine VCall.mk [14, 13] (s_Get [] ob cb ysb T_uint8 hBb (by simp)) ⟨rfl, rfl, rfl⟩ ?_
    rintro _ _ (⟨_, _, _, hg, _⟩ | ⟨_, rfl, hL⟩)
    · rw [getD_nil] at hg; cases hg
    rcases hL with ⟨od, nd, cd, bd, rfl⟩ | rfl
    · refine VCall.mk [1, 0] (s_dots_Dots_Has v2 ms2 c5 1 4) ⟨rfl, rfl, rfl⟩ ?_
      rintro _ _ ⟨rfl, rfl⟩
      refine VRet.mk [] (bv _) [] ⟨rfl, rfl, rfl⟩ ⟨?_, rfl⟩
      show bv _ = bv _
      rw [hH]; rfl
    · refine VCall.mk [1, 0] (s_dots_Dots_Has v2 ms2 c5 1 4) ⟨rfl, rfl, rfl⟩ ?_
      rintro _ _ ⟨rfl, rfl⟩
      refine VRet.mk [] (bv _) [] ⟨rfl, rfl, rfl⟩ ⟨?_, rfl⟩
      show bv _ = bv _
      rw [hH]; rfl
end Go.Proofs

namespace Go.Proofs.Ytmidamdjpabpbaa
open Go.ChangeShapes Go.WideShapes Go.ChangeAt Go.RowKit Go.V Go.Joins
set_option maxRecDepth 100000

theorem own : ownKnob Try.prog.godebug = none := by kernel_rfl
theorem laidOut : laidOutB Try.prog = true := by kernel_rfl

/-- A slice of dots that came in. -/
theorem open_dots {H : Type} {enc : TypeId × Value → H} {W : World} {base : Nat} {a : Option Addr} {len cap : Nat} {d : DataW H} {p : List MemPlace}
    (hval : Value.okWide Try.prog W .any base T_sl_api_Dot (.slice a len cap)) (h : DataW.Trod enc Try.prog W 0 (fun _ => true) true T_sl_api_Dot (.slice a len cap) d p) :
    ∃ (ds : List (Int × Int)) (xs : List Value) (te : TypeId) (o : Nat) (bo : Option Nat), ds.length = len ∧ roOK W bo xs te ∧ bo.map (fun b => (⟨b, o, none⟩ : Addr)) = a ∧ len ≤ cap ∧
      (∀ x ∈ ds, (Lit.int .i64 x.1).wf = true ∧ (Lit.int .i64 x.2).wf = true) ∧ (0 < ds.length → Row xs o ds.length ds) := by
  obtain ⟨ds, xs, te, o, bo, h1, h2, h3, h4, h5, h6⟩ := open_pairs (k0 := .i64) (k1 := .i64) Try.underlying22 Try.underlying24 (by kernel_rfl) rfl rfl (by kernel_rfl) (by kernel_rfl) Try.underlying3 Try.underlying2 hval h
  exact ⟨ds, xs, te, o, bo, h1, h2, h3, h4, h5, fun hp => ⟨Nat.le_refl _, h6 hp⟩⟩

end Go.Proofs.Ytmidamdjpabpbaa

namespace Go.Proofs.Ytmidamdjpabpbaa
open Go.ChangeShapes Go.WideShapes Go.ChangeAt Go.RowKit Go.V Go.Joins
set_option maxRecDepth 100000

theorem dotsKnown_lifted (os : Os) (started : os.Started) (H : Type) (enc : TypeId × Value → H) :
    ReturnsInHanded {} Try.checked os 6 .any (Rows.dotsKnownSpec.pre6 enc Try.prog Try.f6 Rows.dotsKnownRow.domain false) (Rows.dotsKnownSpec.post enc Try.prog Try.f6 false true false false) := by
  refine returnsInHanded_of_change (C := Try.checked) own started (by kernel_rfl) Try.func6
    (ChangeSpec.witness6 (enc := enc) (C := Try.checked) false ⟨#[], #[], []⟩ 8 (by kernel_rfl) (by kernel_rfl) (by kernel_rfl) (by kernel_rfl)) ?_
  intro W base args ds gs before hval0 hW hcnd _
  have hval : ∀ (j : Nat) t v, Try.f6.params[j]? = some t → args[j]? = some v → Value.okWide Try.prog W .any base t v := hval0
  have hW' := hW
  obtain ⟨p, q, hA0, hV, rfl, hfz, hnd⟩ := hW
  have hA : DataW.TrodAll enc Try.prog W 0 (fun _ => true) true Try.f6.params.toList args.toList ds p := hA0
  rw [Try.params6] at hA hval
  obtain ⟨hargs, rfl, rfl⟩ := trodAll_nil hA
  obtain rfl : args = #[] := by cases args; simp_all
  obtain ⟨rfl, rfl⟩ := trodVars_none hV
  clear hA0 hval0
  refine Calls.mono (ctr_below (s_DotsKnown) W (fun k => match k with | _ => none) ?_ rfl rfl (r := .bool true) ?_) fun e W' ⟨he, bel⟩ => ?_
  · intro k so hk; simp at hk
  · rintro v H' ρ' ⟨rfl, _⟩; rfl
  subst he
  exact ⟨_, rfl, _, _, _, [], _, [], hW', trodAll_mk1 (shut_bool Try.underlying4 _), trodAll_mk0, rfl, bel.frame _, fun h => by cases h⟩

theorem dotsKnown_holds : Rows.DotsKnownSaid :=
  OpenClaim.holds_of_wide 6 Try.f6 rfl rfl rfl rfl rfl rfl rfl ⟨rfl, rfl, rfl, rfl, rfl⟩ rfl rfl rfl rfl rfl (by kernel_rfl) Try.func6 (by kernel_rfl)
    (of_decide_eq_true (by kernel_rfl)) (by unfold Func.isWrapper; first | (rw [if_pos (by decide +kernel)]; kernel_rfl) | (rw [if_neg (by decide +kernel)]; exact ⟨rfl, rfl⟩))
    (fun os started H enc _ => dotsKnown_lifted os started H enc)
end Go.Proofs.Ytmidamdjpabpbaa

