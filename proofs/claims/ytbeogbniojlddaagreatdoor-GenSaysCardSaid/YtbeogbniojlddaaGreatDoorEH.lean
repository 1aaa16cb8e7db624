/- Part of the proof that the statement named in the last file holds: lemmas of the prover's own. No conditions. -/
import Derived.Test.YtbeogbniojlddaaGreatDoorPA
import Derived.PinnedBridge
import Derived.Lib.LaidCase
import Derived.Lay
import Derived.LaidOnce
import Derived.SevenTiedAt
import Derived.Test.YtbeogbniojlddaaGreatDoorTie
import Derived.Test.YtbeogbniojlddaaGreatDoorCards
namespace Go.Proofs.YtbeogbniojlddaaGreatDoor
open Go.ChangeShapes Go.WideShapes Go.ChangeAt Go.RowKit Go.V Go.Joins Go.Shelf Go.Lib
set_option maxRecDepth 100000

theorem own : ownKnob Tryz.prog.godebug = none := by kernel_rfl
theorem laidOut : laidOutB Tryz.prog = true := by kernel_rfl
theorem xL : RExtra Tryz.prog Tryz.laysLetter_ren := ⟨by kernel_rfl, by kernel_rfl, by kernel_rfl, by kernel_rfl, by kernel_rfl, by kernel_rfl, by kernel_rfl, by kernel_rfl⟩
theorem xD : RExtra Tryz.prog Tryz.laysDigit_ren := ⟨by kernel_rfl, by kernel_rfl, by kernel_rfl, by kernel_rfl, by kernel_rfl, by kernel_rfl, by kernel_rfl, by kernel_rfl⟩
theorem xC : CaseExtra Tryz.prog Tryz.laysLower_ren := ⟨by kernel_rfl, by kernel_rfl, by kernel_rfl, by kernel_rfl, by kernel_rfl, by kernel_rfl⟩
theorem CaseVar_hold {g : Nat} {T : Array CaseRow} {w w' : World} (hold : ∀ (b : Nat) (o : Obj), w.heap[b]? = some o → w'.heap[b]? = some o) (h : CaseVar g T w) : CaseVar g T w' := by
  obtain ⟨R, oR, cap, h1, h2⟩ := h
  exact ⟨R, oR, cap, cell_hold hold h1, fun i hi => ⟨cell_hold hold (h2 i hi).1, cell_hold hold (h2 i hi).2.1, cell_hold hold (h2 i hi).2.2.1, cell_hold hold (h2 i hi).2.2.2.1, cell_hold hold (h2 i hi).2.2.2.2⟩⟩
theorem CaseH.all {W : World} (h1 : CaseVar (Tryz.laysLower_ren.g 13) caseA W) : CaseH (allH W) :=
  fun _ hw => CaseVar_hold (fun b o e => hw b o e) h1
abbrev laidB : List (String × DataW Unit) := Rows.genRefusedRow.laid
theorem tabs_all {W : World} (hL : laidMet Tryz.prog laidB W) : Uni (allH W) ∧ CaseH (allH W) := by
  have hTL : RVar (Tryz.laysLetter_ren.g 8) letterT W := rvar_of_reads { Tryz.laysLetter with } xL (by kernel_rfl) (by kernel_rfl) ((show Rows.laid_unicode_Letter = rtabData letterT from Pinned.letter_eq) ▸ Lib.laidMet.reads hL (.tail _ (.tail _ (.tail _ (.head _)))))
  have hTD : RVar (Tryz.laysDigit_ren.g 5) digitT W := rvar_of_reads { Tryz.laysDigit with } xD (by kernel_rfl) (by kernel_rfl) ((show Rows.laid_unicode_Digit = rtabData digitT from Pinned.digit_eq) ▸ Lib.laidMet.reads hL (.tail _ (.tail _ (.head _))))
  have hTC : CaseVar (Tryz.laysLower_ren.g 13) caseA W := caseVar_of_reads { Tryz.laysLower with } (by kernel_rfl) xC ((show Rows.laid_unicode_CaseRanges = caseData from Pinned.caseRanges_eq) ▸ Lib.laidMet.reads hL (.tail _ (.head _)))
  have hTP : TabIs Tryz.prog W "unicode.properties" .u8 propertiesTab := tabIs_of_head (g := Tryz.laysLetter_ren.g 7) (t := T_256_uint8) (e := T_uint8) (n := 256) (by kernel_rfl) (by kernel_rfl) (by kernel_rfl) (by kernel_rfl) (by kernel_rfl) (by kernel_rfl) hL
  exact ⟨UniH.all hTP hTL hTD (fun b o e => e), CaseH.all hTC⟩
end Go.Proofs.YtbeogbniojlddaaGreatDoor

namespace Go.Proofs.YtbeogbniojlddaaGreatDoor
open Go.ChangeShapes Go.WideShapes Go.ChangeAt Go.RowKit Go.V Go.Joins Go.Shelf Go.Lib
set_option maxRecDepth 100000

section
variable {H : Type} {enc : TypeId × Value → H} {W : World}
theorem fit_int {k : IntKind} {v : Value} (h : FitK enc Tryz.prog W 0 (fun _ => true) true (.int k) v) : ∃ n, v = .int k n := by
  obtain ⟨n, h, _⟩ := h; exact ⟨n, h⟩
theorem open_dot {fuel : Nat} {c : Array Value} {x : DataW H × List MemPlace} (h : DataW.trod enc Tryz.prog W 0 (fun _ => true) true fuel T_api_Dot c.toList = some x) : ∃ L : Int × Int, c.toList = [.int .i64 L.1, .int .i64 L.2] := by
  obtain ⟨hl, hf⟩ := flat_fit 3 T_api_Dot [.int .i64, .int .i64] fuel _ x (by kernel_rfl) h
  generalize c.toList = cs at *
  match cs, hl with
  | [c0, c1], _ =>
    obtain ⟨n0, rfl⟩ := fit_int (hf 0 _ c0 rfl rfl)
    obtain ⟨n1, rfl⟩ := fit_int (hf 1 _ c1 rfl rfl)
    exact ⟨(n0, n1), rfl⟩
def vec7 (a b c d e f g : Int) : Nat → Int | 0 => a | 1 => b | 2 => c | 3 => d | 4 => e | 5 => f | _ => g
abbrev stK : List FKd := [.int .i64, .int .i64, .int .i64, .int .i64, .int .i64, .int .i64, .int .i64, .int .i64, .int .i64, .int .i64, .int .i64, .str, .str, .int .i64, .int .i64, .int .i64, .int .i64, .int .i64, .int .i64]
theorem open_st {cs : List Value} (hl : cs.length = 19) (hf : ∀ (j : Nat) k y, stK[j]? = some k → cs[j]? = some y → FitK enc Tryz.prog W 0 (fun _ => true) true k y) : ∃ s : ST, cs = stcl s := by
  match cs, hl with
  | [c0, c1, c2, c3, c4, c5, c6, c7, c8, c9, c10, c11, c12, c13, c14, c15, c16, c17, c18], _ =>
    obtain ⟨n0, rfl⟩ := fit_int (hf 0 _ c0 rfl rfl)
    obtain ⟨n1, rfl⟩ := fit_int (hf 1 _ c1 rfl rfl)
    obtain ⟨n2, rfl⟩ := fit_int (hf 2 _ c2 rfl rfl)
    obtain ⟨n3, rfl⟩ := fit_int (hf 3 _ c3 rfl rfl)
    obtain ⟨n4, rfl⟩ := fit_int (hf 4 _ c4 rfl rfl)
    obtain ⟨n5, rfl⟩ := fit_int (hf 5 _ c5 rfl rfl)
    obtain ⟨n6, rfl⟩ := fit_int (hf 6 _ c6 rfl rfl)
    obtain ⟨n7, rfl⟩ := fit_int (hf 7 _ c7 rfl rfl)
    obtain ⟨n8, rfl⟩ := fit_int (hf 8 _ c8 rfl rfl)
    obtain ⟨n9, rfl⟩ := fit_int (hf 9 _ c9 rfl rfl)
    obtain ⟨n10, rfl⟩ := fit_int (hf 10 _ c10 rfl rfl)
    obtain ⟨t11, rfl⟩ := hf 11 _ c11 rfl rfl
    obtain ⟨t12, rfl⟩ := hf 12 _ c12 rfl rfl
    obtain ⟨n13, rfl⟩ := fit_int (hf 13 _ c13 rfl rfl)
    obtain ⟨n14, rfl⟩ := fit_int (hf 14 _ c14 rfl rfl)
    obtain ⟨n15, rfl⟩ := fit_int (hf 15 _ c15 rfl rfl)
    obtain ⟨n16, rfl⟩ := fit_int (hf 16 _ c16 rfl rfl)
    obtain ⟨n17, rfl⟩ := fit_int (hf 17 _ c17 rfl rfl)
    obtain ⟨n18, rfl⟩ := fit_int (hf 18 _ c18 rfl rfl)
    exact ⟨⟨n0, n1, n2, vec7 n3 n4 n5 n6 n7 n8 n9, n10, t11, t12, n13, n14, n15, n16, n17, n18⟩, rfl⟩
def cacl (c : CT) : List Value := [.int .i64 c.kind, .string c.name, .string c.user, .int .i64 c.ar, .int .i64 c.an, .int .i64 c.br, .int .i64 c.bn, .int .i64 c.amount]
theorem open_call {fuel : Nat} {c : Array Value} {x : DataW H × List MemPlace} (h : DataW.trod enc Tryz.prog W 0 (fun _ => true) true fuel T_gen_Call c.toList = some x) : ∃ L : CT, c.toList = cacl L := by
  obtain ⟨hl, hf⟩ := flat_fit 4 T_gen_Call [.int .i64, .str, .str, .int .i64, .int .i64, .int .i64, .int .i64, .int .i64] fuel _ x (by kernel_rfl) h
  generalize c.toList = cs at *
  match cs, hl with
  | [c0, c1, c2, c3, c4, c5, c6, c7], _ =>
    obtain ⟨n0, rfl⟩ := fit_int (hf 0 _ c0 rfl rfl)
    obtain ⟨t1, rfl⟩ := hf 1 _ c1 rfl rfl
    obtain ⟨t2, rfl⟩ := hf 2 _ c2 rfl rfl
    obtain ⟨n3, rfl⟩ := fit_int (hf 3 _ c3 rfl rfl)
    obtain ⟨n4, rfl⟩ := fit_int (hf 4 _ c4 rfl rfl)
    obtain ⟨n5, rfl⟩ := fit_int (hf 5 _ c5 rfl rfl)
    obtain ⟨n6, rfl⟩ := fit_int (hf 6 _ c6 rfl rfl)
    obtain ⟨n7, rfl⟩ := fit_int (hf 7 _ c7 rfl rfl)
    exact ⟨⟨n0, t1, t2, n3, n4, n5, n6, n7⟩, rfl⟩
theorem open_steps {fuel : Nat} {v : Value} {x : DataW H × List MemPlace} (h : DataW.trod enc Tryz.prog W 0 (fun _ => true) true fuel T_sl_auct_Step [v] = some x) : ∃ L, RowsIs stcl 19 (allH W) v L ∧ True := by
  rcases open_rows (d := 5) (ks := stK) (show Tryz.prog.underlying T_sl_auct_Step = some (.slice T_auct_Step) by kernel_rfl) (by kernel_rfl) (by kernel_rfl) (by decide) h with rfl | ⟨a, len, cap, rfl, hlc, h0 | ⟨b, o, xs, te, fr, rfl, hb, hx⟩⟩
  · exact ⟨[], .inl ⟨⟨none, 0, rfl⟩, rfl⟩, trivial⟩
  · subst h0
    exact ⟨[], .inl ⟨⟨_, cap, rfl⟩, rfl⟩, trivial⟩
  · have each : ∀ i, i < len → ∃ s : ST, V.cut xs (o + i * 19) 19 = some (stcl s) := by
      intro i hi
      obtain ⟨cs, h1, h2, h3⟩ := hx i hi
      obtain ⟨s, rfl⟩ := open_st h2 h3
      exact ⟨s, h1⟩
    haveI : Inhabited ST := ⟨zeroT'⟩
    obtain ⟨q, hq⟩ := Go.Deep.choose_lt each
    refine ⟨(List.range len).map q, .inr ⟨b, o, cap, xs, te, fr, by simp, hb, fun i hi => ?_⟩, trivial⟩
    have hi' : i < len := by simpa using hi
    simpa using hq i hi'
end
end Go.Proofs.YtbeogbniojlddaaGreatDoor

namespace Go.Proofs.YtbeogbniojlddaaGreatDoor
open Go.ChangeShapes Go.WideShapes Go.ChangeAt Go.RowKit Go.V Go.Joins Go.Shelf Go.Lib
set_option maxRecDepth 100000

set_option maxHeartbeats 2000000 in
theorem genSays_lifted (os : Os) (started : os.Started) (H : Type) (enc : TypeId × Value → H) :
    ReturnsInHanded {} Tryz.checked os 5 .any (fun w args => (Rows.genSaysSpec.pre enc Tryz.prog Tryz.f5 [] false w args ∧ laidMetH Tryz.prog laidB w) ∧ sizedMet enc Tryz.prog Tryz.f5 (OpenSpec.ofChange Rows.genSaysSpec) false w args)
      (Rows.genSaysSpec.post enc Tryz.prog Tryz.f5 false true false false) := by
  refine returnsInHanded_of_change_and (C := Tryz.checked) (X := fun w _ => laidMetH Tryz.prog laidB w) (fun _ _ _ hh h => h.of_heap hh) own started (by kernel_rfl) Tryz.func5
    (ChangeSpec.witness_shaped (enc := enc) (C := Tryz.checked) (os := os) (X := fun w _ => laidMetH Tryz.prog laidB w) false (World.laidAll Tryz.prog os laidB) #[.slice none 0 0, .agg #[.int .i64 0, .string ByteArray.empty, .string ByteArray.empty, .int .i64 0, .int .i64 0, .int .i64 0, .int .i64 0, .int .i64 0], .agg #[.int .i64 0, .int .i64 0]] 8 (World.laidAll_os _ _ _)
      (World.shaped_of_ZipB (by kernel_rfl) (by kernel_rfl)) (by kernel_rfl) (by kernel_rfl) (by kernel_rfl)
      (by rw [MakeChecks.laidMetH_plain _ _ _ (by kernel_rfl)]; exact laidMet_laidAll _ (by kernel_rfl) (by kernel_rfl))) ?_
  intro W base args ds gs before hval0 hW _ _ hL _
  have hval : ∀ (j : Nat) t v, Tryz.f5.params[j]? = some t → args[j]? = some v → Value.okWide Tryz.prog W .any base t v := hval0
  have hW' := hW
  obtain ⟨p, q, hA0, hV, rfl, hfz, hnd⟩ := hW
  have hA : DataW.TrodAll enc Tryz.prog W 0 (fun _ => true) true Tryz.f5.params.toList args.toList ds p := hA0
  rw [Tryz.params5] at hA hval
  obtain ⟨v0, vs0, d0, ds0, p0, q0, hargs, rfl, rfl, h0, r0⟩ := trodAll_cons hA
  obtain ⟨v1, vs1, d1, ds1, p1, q1, rfl, rfl, rfl, h1, r1⟩ := trodAll_cons r0
  obtain ⟨v2, vs2, d2, ds2, p2, q2, rfl, rfl, rfl, h2, r2⟩ := trodAll_cons r1
  obtain ⟨rfl, rfl, rfl⟩ := trodAll_nil r2
  obtain rfl : args = #[v0, v1, v2] := by cases args; simp_all
  obtain ⟨rfl, rfl⟩ := trodVars_none hV
  rw [MakeChecks.laidMetH_plain _ _ _ (by kernel_rfl)] at hL
  obtain ⟨hU, hC⟩ := tabs_all hL
  have k0 := h0
  have k1 := h1
  have k2 := h2
  have lt0 : ∀ x ∈ p0, x.block < W.heap.size := by obtain ⟨m, hm⟩ := k0; exact DataW.trod_lt m _ _ _ hm
  have lt1 : ∀ x ∈ p1, x.block < W.heap.size := by obtain ⟨m, hm⟩ := k1; exact DataW.trod_lt m _ _ _ hm
  have lt2 : ∀ x ∈ p2, x.block < W.heap.size := by obtain ⟨m, hm⟩ := k2; exact DataW.trod_lt m _ _ _ hm
  obtain ⟨a0, len0, cap0, rfl⟩ := okWide_slice Tryz.underlying51 (hval 0 51 v0 rfl rfl)
  obtain ⟨m0, h0⟩ := h0
  obtain ⟨L0, hL0, hP0⟩ := open_steps h0
  obtain ⟨c1, rfl⟩ := okWide_agg Tryz.underlying47 (hval 1 47 v1 rfl rfl)
  obtain ⟨m1, h1⟩ := h1
  obtain ⟨D1, hD1⟩ := open_call h1
  obtain rfl : c1 = (cacl D1).toArray := by apply Array.toList_inj.1; exact hD1
  obtain ⟨c2, rfl⟩ := okWide_agg Tryz.underlying23 (hval 2 23 v2 rfl rfl)
  obtain ⟨m2, h2⟩ := h2
  obtain ⟨D2, hD2⟩ := open_dot h2
  obtain rfl : c2 = #[.int .i64 D2.1, .int .i64 D2.2] := by apply Array.toList_inj.1; exact hD2
  clear hA0 hval0
  refine Calls.mono (ctr_all (s_GenSays (allH W) hU hC _ L0 hL0 hP0 D1 D2.1 D2.2) rfl rfl (r := .bool true) ?_) fun e W' ⟨he, bel⟩ => ?_
  · rintro v H' ρ' ⟨rfl, rfl⟩; exact ⟨rfl, _, rfl, Sub.refl _⟩
  subst he
  exact ⟨_, rfl, _, _, _, [], _, [], hW', trodAll_mk1 (shut_bool Tryz.underlying4 _), (trodAll_cons_mk (Below.trod laidOut (by kernel_rfl) (of_decide_eq_true (by kernel_rfl)) k0 bel lt0) (trodAll_cons_mk (Below.trod laidOut (by kernel_rfl) (of_decide_eq_true (by kernel_rfl)) k1 bel lt1) (trodAll_cons_mk (Below.trod laidOut (by kernel_rfl) (of_decide_eq_true (by kernel_rfl)) k2 bel lt2) trodAll_mk0))), rfl, bel.frame _, fun h => by cases h⟩
theorem genSays_row : Rows.genSaysRow.holds Tryz.pinned (OpenSpec.ofChange Rows.genSaysSpec) :=
  OpenClaim.holds_of_wide 5 Tryz.f5 rfl rfl rfl rfl rfl rfl rfl ⟨rfl, rfl, rfl, rfl, rfl⟩ rfl rfl rfl rfl rfl (by kernel_rfl) Tryz.func5 (by kernel_rfl)
    (of_decide_eq_true (by kernel_rfl)) (by unfold Func.isWrapper; first | (rw [if_pos (by decide +kernel)]; kernel_rfl) | (rw [if_neg (by decide +kernel)]; exact ⟨rfl, rfl⟩))
    (fun os started H enc _ => genSays_lifted os started H enc)
theorem genSaysCard_holds : Rows.GenSaysCardSaid :=
  Claim7.holds_tied_plain_at .later [] [.data, .pinned, .pinned, .pinned] true (true, "7d47b7bb0a9831c1ca8a58acb46461799edde672f1b71bdde415ad90139277fc") false genSays_row (fun _ h => by cases h) (by kernel_rfl) (fun _ h => by cases h) genSays_row_tie rfl ⟨rfl, rfl⟩ (by kernel_rfl) rfl
    (fun f fn hf hfn => by
      obtain rfl : f = 5 := Option.some.inj ((show Tryz.prog.funcNamed "rostrum/rostrumlaw25.GenSays" = some 5 by kernel_rfl).symm.trans hf) |>.symm
      obtain rfl : fn = Tryz.f5 := (Option.some.inj (Tryz.func5.symm.trans hfn)).symm
      exact ⟨by kernel_rfl, fun j t ht => by
        rw [Tryz.params5] at ht
        have hm : t ∈ [51, 47, 23] := by simpa using Array.mem_of_getElem? ht
        have hall : ([51, 47, 23].all fun u => !Tryz.prog.wantsStandIn u) = true := by kernel_rfl
        exact (show Tryz.prog.wantsStandIn t = false by simpa using List.all_eq_true.1 hall t hm)⟩)
    (by kernel_rfl)
end Go.Proofs.YtbeogbniojlddaaGreatDoor

