/- Part of the proof that the statement named in the last file holds: lemmas of the prover's own. No conditions. -/
import Derived.Test.YtpohkechagmjdaaDoorDC
import Derived.PinnedBridge
import Derived.Lib.LaidCase
import Derived.Lay
import Derived.LaidOnce
import Derived.SevenTiedAt
import Derived.Test.YtpohkechagmjdaaDoorTie
import Derived.Test.YtpohkechagmjdaaDoorCards
namespace Go.Proofs.YtpohkechagmjdaaDoor
open Go.ChangeShapes Go.WideShapes Go.ChangeAt Go.RowKit Go.V Go.Joins Go.Shelf Go.Lib
set_option maxRecDepth 100000

theorem own : ownKnob Tryd.prog.godebug = none := by kernel_rfl
theorem laidOut : laidOutB Tryd.prog = true := by kernel_rfl
theorem xL : RExtra Tryd.prog Tryd.laysLetter_ren := ⟨by kernel_rfl, by kernel_rfl, by kernel_rfl, by kernel_rfl, by kernel_rfl, by kernel_rfl, by kernel_rfl, by kernel_rfl⟩
theorem xD : RExtra Tryd.prog Tryd.laysDigit_ren := ⟨by kernel_rfl, by kernel_rfl, by kernel_rfl, by kernel_rfl, by kernel_rfl, by kernel_rfl, by kernel_rfl, by kernel_rfl⟩
theorem xC : CaseExtra Tryd.prog Tryd.laysLower_ren := ⟨by kernel_rfl, by kernel_rfl, by kernel_rfl, by kernel_rfl, by kernel_rfl, by kernel_rfl⟩
theorem CaseVar_hold {g : Nat} {T : Array CaseRow} {w w' : World} (hold : ∀ (b : Nat) (o : Obj), w.heap[b]? = some o → w'.heap[b]? = some o) (h : CaseVar g T w) : CaseVar g T w' := by
  obtain ⟨R, oR, cap, h1, h2⟩ := h
  exact ⟨R, oR, cap, cell_hold hold h1, fun i hi => ⟨cell_hold hold (h2 i hi).1, cell_hold hold (h2 i hi).2.1, cell_hold hold (h2 i hi).2.2.1, cell_hold hold (h2 i hi).2.2.2.1, cell_hold hold (h2 i hi).2.2.2.2⟩⟩
theorem CaseH.all {W : World} (h1 : CaseVar (Tryd.laysLower_ren.g 13) caseA W) : CaseH (allH W) :=
  fun w hw => CaseVar_hold (fun b o e => hw b o e) h1
abbrev laidB : List (String × DataW Unit) := Rows.auctKnownRow.laid
theorem tabs_all {W : World} (hL : laidMet Tryd.prog laidB W) : Uni (allH W) ∧ CaseH (allH W) := by
  have hTL : RVar (Tryd.laysLetter_ren.g 8) letterT W := rvar_of_reads { Tryd.laysLetter with } xL (by kernel_rfl) (by kernel_rfl) ((show Rows.laid_unicode_Letter = rtabData letterT from Pinned.letter_eq) ▸ Lib.laidMet.reads hL (.tail _ (.tail _ (.tail _ (.head _)))))
  have hTD : RVar (Tryd.laysDigit_ren.g 5) digitT W := rvar_of_reads { Tryd.laysDigit with } xD (by kernel_rfl) (by kernel_rfl) ((show Rows.laid_unicode_Digit = rtabData digitT from Pinned.digit_eq) ▸ Lib.laidMet.reads hL (.tail _ (.tail _ (.head _))))
  have hTC : CaseVar (Tryd.laysLower_ren.g 13) caseA W := caseVar_of_reads { Tryd.laysLower with } (by kernel_rfl) xC ((show Rows.laid_unicode_CaseRanges = caseData from Pinned.caseRanges_eq) ▸ Lib.laidMet.reads hL (.tail _ (.head _)))
  have hTP : TabIs Tryd.prog W "unicode.properties" .u8 propertiesTab := tabIs_of_head (g := Tryd.laysLetter_ren.g 7) (t := T_256_uint8) (e := T_uint8) (n := 256) (by kernel_rfl) (by kernel_rfl) (by kernel_rfl) (by kernel_rfl) (by kernel_rfl) (by kernel_rfl) hL
  exact ⟨UniH.all hTP hTL hTD (fun b o e => e), CaseH.all hTC⟩
end Go.Proofs.YtpohkechagmjdaaDoor

namespace Go.Proofs.YtpohkechagmjdaaDoor
open Go.ChangeShapes Go.WideShapes Go.ChangeAt Go.RowKit Go.V Go.Joins Go.Shelf Go.Lib
set_option maxRecDepth 100000

theorem auctKnown_lifted (os : Os) (started : os.Started) (H : Type) (enc : TypeId × Value → H) :
    ReturnsInHanded {} Tryd.checked os 5 .any (fun w args => (Rows.auctKnownSpec.pre enc Tryd.prog Tryd.f5 [] false w args ∧ laidMetH Tryd.prog laidB w) ∧ sizedMet enc Tryd.prog Tryd.f5 (OpenSpec.ofChange Rows.auctKnownSpec) false w args)
      (Rows.auctKnownSpec.post enc Tryd.prog Tryd.f5 false true false false) := by
  refine returnsInHanded_of_change_and (C := Tryd.checked) (X := fun w _ => laidMetH Tryd.prog laidB w) (fun _ _ _ hh h => h.of_heap hh) own started (by kernel_rfl) Tryd.func5
    (ChangeSpec.witness_shaped (enc := enc) (C := Tryd.checked) (os := os) (X := fun w _ => laidMetH Tryd.prog laidB w) false (World.laidAll Tryd.prog os laidB) #[] 8 (World.laidAll_os _ _ _)
      (World.shaped_of_ZipB (by kernel_rfl) (by kernel_rfl)) (by kernel_rfl) (by kernel_rfl) (by kernel_rfl)
      (by rw [MakeChecks.laidMetH_plain _ _ _ (by kernel_rfl)]; exact laidMet_laidAll _ (by kernel_rfl) (by kernel_rfl))) ?_
  intro W base args ds gs before hval0 hW _ _ hL _
  have hval : ∀ (j : Nat) t v, Tryd.f5.params[j]? = some t → args[j]? = some v → Value.okWide Tryd.prog W .any base t v := hval0
  have hW' := hW
  obtain ⟨p, q, hA0, hV, rfl, hfz, hnd⟩ := hW
  have hA : DataW.TrodAll enc Tryd.prog W 0 (fun _ => true) true Tryd.f5.params.toList args.toList ds p := hA0
  rw [Tryd.params5] at hA hval
  obtain ⟨hargs, rfl, rfl⟩ := trodAll_nil hA
  obtain rfl : args = #[] := by cases args; simp_all
  obtain ⟨rfl, rfl⟩ := trodVars_none hV
  rw [MakeChecks.laidMetH_plain _ _ _ (by kernel_rfl)] at hL
  obtain ⟨hU, hC⟩ := tabs_all hL
  clear hA0 hval0
  refine Calls.mono (ctr_all (s_AuctKnown (allH W) hU hC) rfl rfl (r := .bool true) ?_) fun e W' ⟨he, bel⟩ => ?_
  · rintro v H' ρ' ⟨rfl, rfl⟩; exact ⟨rfl, _, rfl, Sub.refl _⟩
  subst he
  exact ⟨_, rfl, _, _, _, [], _, [], hW', trodAll_mk1 (shut_bool Tryd.underlying4 _), trodAll_mk0, rfl, bel.frame _, fun h => by cases h⟩
theorem auctKnown_row : Rows.auctKnownRow.holds Tryd.pinned (OpenSpec.ofChange Rows.auctKnownSpec) :=
  OpenClaim.holds_of_wide 5 Tryd.f5 rfl rfl rfl rfl rfl rfl rfl ⟨rfl, rfl, rfl, rfl, rfl⟩ rfl rfl rfl rfl rfl (by kernel_rfl) Tryd.func5 (by kernel_rfl)
    (of_decide_eq_true (by kernel_rfl)) (by unfold Func.isWrapper; first | (rw [if_pos (by decide +kernel)]; kernel_rfl) | (rw [if_neg (by decide +kernel)]; exact ⟨rfl, rfl⟩))
    (fun os started H enc _ => auctKnown_lifted os started H enc)
theorem auctKnownCard_holds : Rows.AuctKnownCardSaid :=
  Claim7.holds_tied_plain_at .later [] [.data, .pinned, .pinned, .pinned] true (true, "78e95c6280531e46b1fb6dbb74f99c8156cc14e82c6bcfc89ebe3429242cff9d") false auctKnown_row (fun _ h => by cases h) (by kernel_rfl) (fun _ h => by cases h) auctKnown_row_tie rfl ⟨rfl, rfl⟩ (by kernel_rfl) rfl
    (fun f fn hf hfn => by
      obtain rfl : f = 5 := Option.some.inj ((show Tryd.prog.funcNamed "rostrum/rostrumlaw24.AuctKnown" = some 5 by kernel_rfl).symm.trans hf) |>.symm
      obtain rfl : fn = Tryd.f5 := (Option.some.inj (Tryd.func5.symm.trans hfn)).symm
      exact ⟨by kernel_rfl, fun j t ht => by
        rw [Tryd.params5] at ht
        simp at ht⟩)
    (by kernel_rfl)
end Go.Proofs.YtpohkechagmjdaaDoor

