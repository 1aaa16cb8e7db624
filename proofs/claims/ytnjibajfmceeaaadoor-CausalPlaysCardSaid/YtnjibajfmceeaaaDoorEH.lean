/- Part of the proof that the statement named in the last file holds: lemmas of the prover's own. No conditions. -/
import Derived.Test.YtnjibajfmceeaaaDoorDC
import Derived.Test.YtnjibajfmceeaaaDoorRows
import Derived.Test.YtnjibajfmceeaaaDoorDD
import Derived.PinnedBridge
import Derived.Lay
import Derived.LaidOnce
import Derived.SevenTiedAt
import Derived.Test.YtnjibajfmceeaaaDoorTie
import Derived.Test.YtnjibajfmceeaaaDoorCards
namespace Go.Proofs.YtnjibajfmceeaaaDoor
open Go.ChangeShapes Go.WideShapes Go.ChangeAt Go.RowKit Go.V Go.Joins
set_option maxRecDepth 100000

theorem own : ownKnob Tryd.prog.godebug = none := by kernel_rfl
theorem laidOut : laidOutB Tryd.prog = true := by kernel_rfl
section
variable {H : Type} {enc : TypeId × Value → H} {W : World}
theorem fit_int {k : IntKind} {v : Value} (h : FitK enc Tryd.prog W 0 (fun _ => true) true (.int k) v) : ∃ n, v = .int k n := by
  obtain ⟨n, h, _⟩ := h; exact ⟨n, h⟩
abbrev shK : List FKd := [.int .i64, .int .i64, .int .i64, .int .i64, .int .i64, .int .i64, .int .i64, .int .i64, .int .i64, .int .i64, .str, .str, .int .i64, .int .i64]
theorem open_sh {cs : List Value} (hl : cs.length = 14) (hf : ∀ (j : Nat) k y, shK[j]? = some k → cs[j]? = some y → FitK enc Tryd.prog W 0 (fun _ => true) true k y) : ∃ s, cs = shcl s ∧ Plain7 s := by
  match cs, hl with
  | [c0, c1, c2, c3, c4, c5, c6, c7, c8, c9, c10, c11, c12, c13], _ =>
    obtain ⟨n0, rfl⟩ := fit_int (hf 0 _ c0 rfl rfl)
    obtain ⟨n1, rfl⟩ := fit_int (hf 1 _ c1 rfl rfl)
    obtain ⟨n2, rfl⟩ := fit_int (hf 2 _ c2 rfl rfl)
    obtain ⟨n3, rfl⟩ := fit_int (hf 3 _ c3 rfl rfl)
    obtain ⟨n4, rfl⟩ := fit_int (hf 4 _ c4 rfl rfl)
    obtain ⟨n5, rfl⟩ := fit_int (hf 5 _ c5 rfl rfl)
    obtain ⟨n6, rfl⟩ := fit_int (hf 6 _ c6 rfl rfl)
    obtain ⟨n7, rfl⟩ := fit_int (hf 7 _ c7 rfl rfl)
    obtain ⟨n8, rfl⟩ := fit_int (hf 8 _ c8 rfl rfl)
    obtain ⟨n9, rfl⟩ := fit_int (hf 9 _ c9 rfl rfl)
    obtain ⟨k, rfl⟩ := hf 10 _ c10 rfl rfl
    obtain ⟨t, rfl⟩ := hf 11 _ c11 rfl rfl
    obtain ⟨n12, rfl⟩ := fit_int (hf 12 _ c12 rfl rfl)
    obtain ⟨n13, rfl⟩ := fit_int (hf 13 _ c13 rfl rfl)
    exact ⟨⟨n0, n1, sev n2 n3 n4 n5 n6 n7 n8, n9, k, t, n12, n13⟩, rfl, rfl⟩
theorem open_shadows {fuel : Nat} {v : Value} {x : DataW H × List MemPlace} (h : DataW.trod enc Tryd.prog W 0 (fun _ => true) true fuel T_sl_shadow_Shadow [v] = some x) : ∃ L, RowsIs shcl 14 (allH W) v L ∧ ∀ s, s ∈ L → Plain7 s := by
  rcases open_rows (d := 5) (ks := shK) (show Tryd.prog.underlying T_sl_shadow_Shadow = some (.slice T_shadow_Shadow) by kernel_rfl) (by kernel_rfl) (by kernel_rfl) (by decide) h with rfl | ⟨a, len, cap, rfl, hlc, h0 | ⟨b, o, xs, te, fr, rfl, hb, hx⟩⟩
  · exact ⟨[], .inl ⟨⟨none, 0, rfl⟩, rfl⟩, by simp⟩
  · subst h0
    exact ⟨[], .inl ⟨⟨_, cap, rfl⟩, rfl⟩, by simp⟩
  · have each : ∀ i, i < len → ∃ s : SH, V.cut xs (o + i * 14) 14 = some (shcl s) ∧ Plain7 s := by
      intro i hi
      obtain ⟨cs, h1, h2, h3⟩ := hx i hi
      obtain ⟨s, rfl, h4⟩ := open_sh h2 h3
      exact ⟨s, h1, h4⟩
    haveI : Inhabited SH := ⟨zeroS⟩
    obtain ⟨q, hq⟩ := Go.Deep.choose_lt each
    refine ⟨(List.range len).map q, .inr ⟨b, o, cap, xs, te, fr, by simp, hb, fun i hi => ?_⟩, fun s hs => ?_⟩
    · have hi' : i < len := by simpa using hi
      simpa using (hq i hi').1
    · obtain ⟨i, hi, rfl⟩ := List.mem_map.1 hs
      exact (hq i (List.mem_range.1 hi)).2
theorem open_bools {fuel : Nat} {v : Value} {x : DataW H × List MemPlace} (h : DataW.trod enc Tryd.prog W 0 (fun _ => true) true fuel T_sl_bool [v] = some x) : ∃ L, RowsIs boolcl 1 (allH W) v L := by
  rcases open_rows (d := 2) (ks := [.bool]) (show Tryd.prog.underlying T_sl_bool = some (.slice T_bool) by kernel_rfl) (by kernel_rfl) (by kernel_rfl) (by decide) h with rfl | ⟨a, len, cap, rfl, hlc, h0 | ⟨b, o, xs, te, fr, rfl, hb, hx⟩⟩
  · exact ⟨[], .inl ⟨⟨none, 0, rfl⟩, rfl⟩⟩
  · subst h0
    exact ⟨[], .inl ⟨⟨_, cap, rfl⟩, rfl⟩⟩
  · have each : ∀ i, i < len → ∃ s : Bool, V.cut xs (o + i * 1) 1 = some (boolcl s) := by
      intro i hi
      obtain ⟨cs, h1, h2, h3⟩ := hx i hi
      match cs, h2 with
      | [y], _ =>
        obtain ⟨s, rfl⟩ := h3 0 _ y rfl rfl
        exact ⟨s, h1⟩
    obtain ⟨q, hq⟩ := Go.Deep.choose_lt each
    refine ⟨(List.range len).map q, .inr ⟨b, o, cap, xs, te, fr, by simp, hb, fun i hi => ?_⟩⟩
    have hi' : i < len := by simpa using hi
    simpa using hq i hi'
end
end Go.Proofs.YtnjibajfmceeaaaDoor

namespace Go.Proofs.YtnjibajfmceeaaaDoor
open Go.ChangeShapes Go.WideShapes Go.ChangeAt Go.RowKit Go.V Go.Joins Go.Shelf Go.Lib
set_option maxRecDepth 100000

section
open Go.Deep
variable {H : Type} {enc : TypeId × Value → H} {W : World}
abbrev vcl (A : Nat → Int) : List Value := [.int .i64 (A 0), .int .i64 (A 1), .int .i64 (A 2), .int .i64 (A 3), .int .i64 (A 4), .int .i64 (A 5), .int .i64 (A 6)]
theorem open_vec1 {fuel : Nat} {c : Array Value} {x : DataW H × List MemPlace} (h : DataW.trod enc Tryd.prog W 0 (fun _ => true) true fuel T_vec_Vec c.toList = some x) : ∃ A : Nat → Int, c.toList = vcl A := by
  obtain ⟨hl, hf⟩ := flat_fit 3 T_vec_Vec [.int .i64, .int .i64, .int .i64, .int .i64, .int .i64, .int .i64, .int .i64] fuel _ x (by kernel_rfl) h
  generalize c.toList = cs at *
  match cs, hl with
  | [c0, c1, c2, c3, c4, c5, c6], _ =>
    obtain ⟨n0, rfl⟩ := fit_int (hf 0 _ c0 rfl rfl)
    obtain ⟨n1, rfl⟩ := fit_int (hf 1 _ c1 rfl rfl)
    obtain ⟨n2, rfl⟩ := fit_int (hf 2 _ c2 rfl rfl)
    obtain ⟨n3, rfl⟩ := fit_int (hf 3 _ c3 rfl rfl)
    obtain ⟨n4, rfl⟩ := fit_int (hf 4 _ c4 rfl rfl)
    obtain ⟨n5, rfl⟩ := fit_int (hf 5 _ c5 rfl rfl)
    obtain ⟨n6, rfl⟩ := fit_int (hf 6 _ c6 rfl rfl)
    exact ⟨sev n0 n1 n2 n3 n4 n5 n6, rfl⟩
end
theorem xL : RExtra Tryd.prog Tryd.laysLetter_ren := ⟨by kernel_rfl, by kernel_rfl, by kernel_rfl, by kernel_rfl, by kernel_rfl, by kernel_rfl, by kernel_rfl, by kernel_rfl⟩
theorem xD : RExtra Tryd.prog Tryd.laysDigit_ren := ⟨by kernel_rfl, by kernel_rfl, by kernel_rfl, by kernel_rfl, by kernel_rfl, by kernel_rfl, by kernel_rfl, by kernel_rfl⟩
abbrev laidB : List (String × DataW Unit) := Rows.causalPlaysRow.laid
theorem causalPlays_lifted (os : Os) (started : os.Started) (H : Type) (enc : TypeId × Value → H) :
    ReturnsInHanded {} Tryd.checked os 5 .any (fun w args => (Rows.causalPlaysSpec.pre enc Tryd.prog Tryd.f5 [] false w args ∧ laidMetH Tryd.prog laidB w) ∧ sizedMet enc Tryd.prog Tryd.f5 (OpenSpec.ofChange Rows.causalPlaysSpec) false w args)
      (Rows.causalPlaysSpec.post enc Tryd.prog Tryd.f5 false true false false) := by
  refine returnsInHanded_of_change_and (C := Tryd.checked) (X := fun w _ => laidMetH Tryd.prog laidB w) (fun _ _ _ hh h => h.of_heap hh) own started (by kernel_rfl) Tryd.func5
    (ChangeSpec.witness_shaped (enc := enc) (C := Tryd.checked) (os := os) (X := fun w _ => laidMetH Tryd.prog laidB w) false (World.laidAll Tryd.prog os laidB) #[.slice none 0 0, .agg #[.int .i64 0, .int .i64 0, .int .i64 0, .int .i64 0, .int .i64 0, .int .i64 0, .int .i64 0], .int .i64 0, .agg #[.int .i64 0, .int .i64 0, .int .i64 0, .int .i64 0, .int .i64 0, .int .i64 0, .int .i64 0]] 8 (World.laidAll_os _ _ _)
      (World.shaped_of_ZipB (by kernel_rfl) (by kernel_rfl)) (by kernel_rfl) (by kernel_rfl) (by kernel_rfl)
      (by rw [MakeChecks.laidMetH_plain _ _ _ (by kernel_rfl)]; exact laidMet_laidAll _ (by kernel_rfl) (by kernel_rfl))) ?_
  intro W base args ds gs before hval0 hW _ _ hL _
  have hval : ∀ (j : Nat) t v, Tryd.f5.params[j]? = some t → args[j]? = some v → Value.okWide Tryd.prog W .any base t v := hval0
  have hW' := hW
  obtain ⟨p, q, hA0, hV, rfl, hfz, hnd⟩ := hW
  have hA : DataW.TrodAll enc Tryd.prog W 0 (fun _ => true) true Tryd.f5.params.toList args.toList ds p := hA0
  rw [Tryd.params5] at hA hval
  obtain ⟨v0, vs0, d0, ds0, p0, q0, hargs, rfl, rfl, h0, r0⟩ := trodAll_cons hA
  obtain ⟨v1, vs1, d1, ds1, p1, q1, rfl, rfl, rfl, h1, r1⟩ := trodAll_cons r0
  obtain ⟨v2, vs2, d2, ds2, p2, q2, rfl, rfl, rfl, h2, r2⟩ := trodAll_cons r1
  obtain ⟨v3, vs3, d3, ds3, p3, q3, rfl, rfl, rfl, h3, r3⟩ := trodAll_cons r2
  obtain ⟨rfl, rfl, rfl⟩ := trodAll_nil r3
  obtain rfl : args = #[v0, v1, v2, v3] := by cases args; simp_all
  obtain ⟨rfl, rfl⟩ := trodVars_none hV
  rw [MakeChecks.laidMetH_plain _ _ _ (by kernel_rfl)] at hL
  have hTL : RVar (Tryd.laysLetter_ren.g 8) letterT W := rvar_of_reads { Tryd.laysLetter with } xL (by kernel_rfl) (by kernel_rfl) ((show Rows.laid_unicode_Letter = rtabData letterT from Pinned.letter_eq) ▸ Lib.laidMet.reads hL (.tail _ (.tail _ (.head _))))
  have hTD : RVar (Tryd.laysDigit_ren.g 5) digitT W := rvar_of_reads { Tryd.laysDigit with } xD (by kernel_rfl) (by kernel_rfl) ((show Rows.laid_unicode_Digit = rtabData digitT from Pinned.digit_eq) ▸ Lib.laidMet.reads hL (.tail _ (.head _)))
  have hTP : TabIs Tryd.prog W "unicode.properties" .u8 propertiesTab := tabIs_of_head (g := Tryd.laysLetter_ren.g 7) (t := T_256_uint8) (e := T_uint8) (n := 256) (by kernel_rfl) (by kernel_rfl) (by kernel_rfl) (by kernel_rfl) (by kernel_rfl) (by kernel_rfl) hL
  have hU : Uni (allH W) := UniH.all hTP hTL hTD (fun b o e => e)
  have k0 := h0
  have k1 := h1
  have k2 := h2
  have k3 := h3
  have lt0 : ∀ x ∈ p0, x.block < W.heap.size := by obtain ⟨m, hm⟩ := k0; exact DataW.trod_lt m _ _ _ hm
  have lt2 : ∀ x ∈ p2, x.block < W.heap.size := by obtain ⟨m, hm⟩ := k2; exact DataW.trod_lt m _ _ _ hm
  have lt3 : ∀ x ∈ p3, x.block < W.heap.size := by obtain ⟨m, hm⟩ := k3; exact DataW.trod_lt m _ _ _ hm
  have lt1 : ∀ x ∈ p1, x.block < W.heap.size := by obtain ⟨m, hm⟩ := k1; exact DataW.trod_lt m _ _ _ hm
  obtain ⟨a0, len0, cap0, rfl⟩ := okWide_slice Tryd.underlying22 (hval 0 22 v0 rfl rfl)
  obtain ⟨c1, rfl⟩ := okWide_arr Tryd.underlying28 (hval 1 28 v1 rfl rfl)
  obtain ⟨n2, rfl⟩ := okWide_int Tryd.underlying3 (hval 2 3 v2 rfl rfl)
  obtain ⟨c3, rfl⟩ := okWide_arr Tryd.underlying28 (hval 3 28 v3 rfl rfl)
  obtain ⟨m0, h0⟩ := h0
  obtain ⟨m1, h1⟩ := h1
  obtain ⟨m3, h3⟩ := h3
  obtain ⟨L0, hL0, hP0⟩ := open_shadows h0
  obtain ⟨A, hA1⟩ := open_vec1 h1
  obtain rfl : c1 = (vcl A).toArray := by apply Array.toList_inj.1; exact hA1
  obtain ⟨St, hS1⟩ := open_vec1 h3
  obtain rfl : c3 = (vcl St).toArray := by apply Array.toList_inj.1; exact hS1
  clear hA0 hval0
  refine Calls.mono (ctr_all (s_CausalPlays (allH W) hU _ L0 A St n2 hL0 hP0) rfl rfl (r := .bool true) ?_) fun e W' ⟨he, bel⟩ => ?_
  · rintro v H' ρ' ⟨rfl, rfl⟩; exact ⟨rfl, _, rfl, Sub.refl _⟩
  subst he
  exact ⟨_, rfl, _, _, _, [], _, [], hW', trodAll_mk1 (shut_bool Tryd.underlying4 _), (trodAll_cons_mk (Below.trod laidOut (by kernel_rfl) (of_decide_eq_true (by kernel_rfl)) k0 bel lt0) (trodAll_cons_mk (Below.trod laidOut (by kernel_rfl) (of_decide_eq_true (by kernel_rfl)) k1 bel lt1) (trodAll_cons_mk (Below.trod laidOut (by kernel_rfl) (of_decide_eq_true (by kernel_rfl)) k2 bel lt2) (trodAll_cons_mk (Below.trod laidOut (by kernel_rfl) (of_decide_eq_true (by kernel_rfl)) k3 bel lt3) trodAll_mk0)))), rfl, bel.frame _, fun h => by cases h⟩
theorem causalPlays_row : Rows.causalPlaysRow.holds Tryd.pinned (OpenSpec.ofChange Rows.causalPlaysSpec) :=
  OpenClaim.holds_of_wide 5 Tryd.f5 rfl rfl rfl rfl rfl rfl rfl ⟨rfl, rfl, rfl, rfl, rfl⟩ rfl rfl rfl rfl rfl (by kernel_rfl) Tryd.func5 (by kernel_rfl)
    (of_decide_eq_true (by kernel_rfl)) (by unfold Func.isWrapper; first | (rw [if_pos (by decide +kernel)]; kernel_rfl) | (rw [if_neg (by decide +kernel)]; exact ⟨rfl, rfl⟩))
    (fun os started H enc _ => causalPlays_lifted os started H enc)
theorem causalPlaysCard_holds : Rows.CausalPlaysCardSaid :=
  Claim7.holds_tied_plain_at .later [] [.data, .pinned, .pinned] true (true, "8dfd6869943901ab86addb612e7393e77a640301410433515362e607dd21c7a0") false causalPlays_row (fun _ h => by cases h) (by kernel_rfl) (fun _ h => by cases h) causalPlays_row_tie rfl ⟨rfl, rfl⟩ (by kernel_rfl) rfl
    (fun f fn hf hfn => by
      obtain rfl : f = 5 := Option.some.inj ((show Tryd.prog.funcNamed "rostrum/rostrumlaw16.CausalPlays" = some 5 by kernel_rfl).symm.trans hf) |>.symm
      obtain rfl : fn = Tryd.f5 := (Option.some.inj (Tryd.func5.symm.trans hfn)).symm
      exact ⟨by kernel_rfl, fun j t ht => by
        rw [Tryd.params5] at ht
        have hm : t ∈ [22, 28, 3, 28] := by simpa using Array.mem_of_getElem? ht
        have hall : ([22, 28, 3, 28].all fun u => !Tryd.prog.wantsStandIn u) = true := by kernel_rfl
        exact (show Tryd.prog.wantsStandIn t = false by simpa using List.all_eq_true.1 hall t hm)⟩)
    (by kernel_rfl)
end Go.Proofs.YtnjibajfmceeaaaDoor

