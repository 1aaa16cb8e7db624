/- Part of the proof that the statement named in the last file holds: lemmas of the prover's own. No conditions. -/
import Derived.Test.YtpohkechagmjdaaDoorDC
import Derived.PinnedBridge
import Derived.Lib.LaidCase
import Derived.Lay
import Derived.LaidOnce
import Derived.SevenTiedAt
import Derived.Test.YtpohkechagmjdaaDoorTie
import Derived.Test.YtpohkechagmjdaaDoorCards
import Derived.JoinedCond
namespace Go.Proofs.YtpohkechagmjdaaDoor
open Go.ChangeShapes Go.WideShapes Go.ChangeAt Go.RowKit Go.V Go.Joins Go.Shelf Go.Lib
set_option maxRecDepth 100000

theorem own : ownKnob Tryd.prog.godebug = none := by kernel_rfl
theorem laidOut : laidOutB Tryd.prog = true := by kernel_rfl
theorem xL : RExtra Tryd.prog Tryd.laysLetter_ren := ⟨by kernel_rfl, by kernel_rfl, by kernel_rfl, by kernel_rfl, by kernel_rfl, by kernel_rfl, by kernel_rfl, by kernel_rfl⟩
theorem xD : RExtra Tryd.prog Tryd.laysDigit_ren := ⟨by kernel_rfl, by kernel_rfl, by kernel_rfl, by kernel_rfl, by kernel_rfl, by kernel_rfl, by kernel_rfl, by kernel_rfl⟩
theorem xC : CaseExtra Tryd.prog Tryd.laysLower_ren := ⟨by kernel_rfl, by kernel_rfl, by kernel_rfl, by kernel_rfl, by kernel_rfl, by kernel_rfl⟩
theorem CaseVar_hold {g : Nat} {T : Array CaseRow} {w w' : World} (hold : ∀ (b : Nat) (o : Obj), w.heap[b]? = some o → w'.heap[b]? = some o) (h : CaseVar g T w) : CaseVar g T w' := by
  obtain ⟨R, oR, cap, h1, h2⟩ := h
  exact ⟨R, oR, cap, cell_hold hold h1, fun i hi => ⟨cell_hold hold (h2 i hi).1, cell_hold hold (h2 i hi).2.1, cell_hold hold (h2 i hi).2.2.1, cell_hold hold (h2 i hi).2.2.2.1, cell_hold hold (h2 i hi).2.2.2.2⟩⟩
theorem CaseH.all {W : World} (h1 : CaseVar (Tryd.laysLower_ren.g 13) caseA W) : CaseH (allH W) :=
  fun _ hw => CaseVar_hold (fun b o e => hw b o e) h1
abbrev laidB : List (String × DataW Unit) := Rows.auctKnownRow.laid
theorem tabs_all {W : World} (hL : laidMet Tryd.prog laidB W) : Uni (allH W) ∧ CaseH (allH W) := by
  have hTL : RVar (Tryd.laysLetter_ren.g 8) letterT W := rvar_of_reads { Tryd.laysLetter with } xL (by kernel_rfl) (by kernel_rfl) ((show Rows.laid_unicode_Letter = rtabData letterT from Pinned.letter_eq) ▸ Lib.laidMet.reads hL (.tail _ (.tail _ (.tail _ (.head _)))))
  have hTD : RVar (Tryd.laysDigit_ren.g 5) digitT W := rvar_of_reads { Tryd.laysDigit with } xD (by kernel_rfl) (by kernel_rfl) ((show Rows.laid_unicode_Digit = rtabData digitT from Pinned.digit_eq) ▸ Lib.laidMet.reads hL (.tail _ (.tail _ (.head _))))
  have hTC : CaseVar (Tryd.laysLower_ren.g 13) caseA W := caseVar_of_reads { Tryd.laysLower with } (by kernel_rfl) xC ((show Rows.laid_unicode_CaseRanges = caseData from Pinned.caseRanges_eq) ▸ Lib.laidMet.reads hL (.tail _ (.head _)))
  have hTP : TabIs Tryd.prog W "unicode.properties" .u8 propertiesTab := tabIs_of_head (g := Tryd.laysLetter_ren.g 7) (t := T_256_uint8) (e := T_uint8) (n := 256) (by kernel_rfl) (by kernel_rfl) (by kernel_rfl) (by kernel_rfl) (by kernel_rfl) (by kernel_rfl) hL
  exact ⟨UniH.all hTP hTL hTD (fun b o e => e), CaseH.all hTC⟩
end Go.Proofs.YtpohkechagmjdaaDoor

namespace Go.Proofs.YtpohkechagmjdaaDoor
open Go.ChangeShapes Go.WideShapes Go.ChangeAt Go.RowKit Go.V Go.Joins Go.Shelf Go.Lib
set_option maxRecDepth 100000

section
variable {H : Type} {enc : TypeId × Value → H} {W : World}
theorem fit_int {k : IntKind} {v : Value} (h : FitK enc Tryd.prog W 0 (fun _ => true) true (.int k) v) : ∃ n, v = .int k n := by
  obtain ⟨n, h, _⟩ := h; exact ⟨n, h⟩
theorem open_bools {fuel : Nat} {v : Value} {x : DataW H × List MemPlace} (h : DataW.trod enc Tryd.prog W 0 (fun _ => true) true fuel T_sl_bool [v] = some x) : ∃ L, RowsIs boolcl 1 (allH W) v L ∧ True := by
  rcases open_rows (d := 2) (ks := [.bool]) (show Tryd.prog.underlying T_sl_bool = some (.slice T_bool) by kernel_rfl) (by kernel_rfl) (by kernel_rfl) (by decide) h with rfl | ⟨a, len, cap, rfl, hlc, h0 | ⟨b, o, xs, te, fr, rfl, hb, hx⟩⟩
  · exact ⟨[], .inl ⟨⟨none, 0, rfl⟩, rfl⟩, trivial⟩
  · subst h0
    exact ⟨[], .inl ⟨⟨_, cap, rfl⟩, rfl⟩, trivial⟩
  · have each : ∀ i, i < len → ∃ s : Bool, V.cut xs (o + i * 1) 1 = some (boolcl s) := by
      intro i hi
      obtain ⟨cs, h1, h2, h3⟩ := hx i hi
      match cs, h2 with
      | [y], _ =>
        obtain ⟨s, rfl⟩ := h3 0 _ y rfl rfl
        exact ⟨s, h1⟩
    haveI : Inhabited Bool := ⟨false⟩
    obtain ⟨q, hq⟩ := Go.Deep.choose_lt each
    refine ⟨(List.range len).map q, .inr ⟨b, o, cap, xs, te, fr, by simp, hb, fun i hi => ?_⟩, trivial⟩
    have hi' : i < len := by simpa using hi
    simpa using hq i hi'
theorem open_ints {fuel : Nat} {v : Value} {x : DataW H × List MemPlace} (h : DataW.trod enc Tryd.prog W 0 (fun _ => true) true fuel T_sl_int64 [v] = some x) : ∃ L, RowsIs intcl 1 (allH W) v L ∧ True := by
  rcases open_rows (d := 2) (ks := [.int .i64]) (show Tryd.prog.underlying T_sl_int64 = some (.slice T_int64) by kernel_rfl) (by kernel_rfl) (by kernel_rfl) (by decide) h with rfl | ⟨a, len, cap, rfl, hlc, h0 | ⟨b, o, xs, te, fr, rfl, hb, hx⟩⟩
  · exact ⟨[], .inl ⟨⟨none, 0, rfl⟩, rfl⟩, trivial⟩
  · subst h0
    exact ⟨[], .inl ⟨⟨_, cap, rfl⟩, rfl⟩, trivial⟩
  · have each : ∀ i, i < len → ∃ s : Int, V.cut xs (o + i * 1) 1 = some (intcl s) := by
      intro i hi
      obtain ⟨cs, h1, h2, h3⟩ := hx i hi
      match cs, h2 with
      | [y], _ =>
        obtain ⟨s, rfl, _⟩ := h3 0 _ y rfl rfl
        exact ⟨s, h1⟩
    haveI : Inhabited Int := ⟨0⟩
    obtain ⟨q, hq⟩ := Go.Deep.choose_lt each
    refine ⟨(List.range len).map q, .inr ⟨b, o, cap, xs, te, fr, by simp, hb, fun i hi => ?_⟩, trivial⟩
    have hi' : i < len := by simpa using hi
    simpa using hq i hi'
abbrev stK : List FKd := [.int .i64, .int .i64, .int .i64, .int .i64, .int .i64, .int .i64, .int .i64, .int .i64, .int .i64, .int .i64, .int .i64, .str, .str, .int .i64, .int .i64, .int .i64, .int .i64, .int .i64, .int .i64]
theorem open_st {cs : List Value} (hl : cs.length = 19) (hf : ∀ (j : Nat) k y, stK[j]? = some k → cs[j]? = some y → FitK enc Tryd.prog W 0 (fun _ => true) true k y) : ∃ s : ST, cs = stcl s := by
  match cs, hl with
  | [c0, c1, c2, c3, c4, c5, c6, c7, c8, c9, c10, c11, c12, c13, c14, c15, c16, c17, c18], _ =>
    obtain ⟨n0, rfl⟩ := fit_int (hf 0 _ c0 rfl rfl)
    obtain ⟨n1, rfl⟩ := fit_int (hf 1 _ c1 rfl rfl)
    obtain ⟨n2, rfl⟩ := fit_int (hf 2 _ c2 rfl rfl)
    obtain ⟨n3, rfl⟩ := fit_int (hf 3 _ c3 rfl rfl)
    obtain ⟨n4, rfl⟩ := fit_int (hf 4 _ c4 rfl rfl)
    obtain ⟨n5, rfl⟩ := fit_int (hf 5 _ c5 rfl rfl)
    obtain ⟨n6, rfl⟩ := fit_int (hf 6 _ c6 rfl rfl)
    obtain ⟨n7, rfl⟩ := fit_int (hf 7 _ c7 rfl rfl)
    obtain ⟨n8, rfl⟩ := fit_int (hf 8 _ c8 rfl rfl)
    obtain ⟨n9, rfl⟩ := fit_int (hf 9 _ c9 rfl rfl)
    obtain ⟨n10, rfl⟩ := fit_int (hf 10 _ c10 rfl rfl)
    obtain ⟨t11, rfl⟩ := hf 11 _ c11 rfl rfl
    obtain ⟨t12, rfl⟩ := hf 12 _ c12 rfl rfl
    obtain ⟨n13, rfl⟩ := fit_int (hf 13 _ c13 rfl rfl)
    obtain ⟨n14, rfl⟩ := fit_int (hf 14 _ c14 rfl rfl)
    obtain ⟨n15, rfl⟩ := fit_int (hf 15 _ c15 rfl rfl)
    obtain ⟨n16, rfl⟩ := fit_int (hf 16 _ c16 rfl rfl)
    obtain ⟨n17, rfl⟩ := fit_int (hf 17 _ c17 rfl rfl)
    obtain ⟨n18, rfl⟩ := fit_int (hf 18 _ c18 rfl rfl)
    exact ⟨⟨n0, n1, n2, vec7 n3 n4 n5 n6 n7 n8 n9, n10, t11, t12, n13, n14, n15, n16, n17, n18⟩, rfl⟩
theorem open_steps {fuel : Nat} {v : Value} {x : DataW H × List MemPlace} (h : DataW.trod enc Tryd.prog W 0 (fun _ => true) true fuel T_sl_auct_Step [v] = some x) : ∃ L, RowsIs stcl 19 (allH W) v L ∧ True := by
  rcases open_rows (d := 5) (ks := stK) (show Tryd.prog.underlying T_sl_auct_Step = some (.slice T_auct_Step) by kernel_rfl) (by kernel_rfl) (by kernel_rfl) (by decide) h with rfl | ⟨a, len, cap, rfl, hlc, h0 | ⟨b, o, xs, te, fr, rfl, hb, hx⟩⟩
  · exact ⟨[], .inl ⟨⟨none, 0, rfl⟩, rfl⟩, trivial⟩
  · subst h0
    exact ⟨[], .inl ⟨⟨_, cap, rfl⟩, rfl⟩, trivial⟩
  · have each : ∀ i, i < len → ∃ s : ST, V.cut xs (o + i * 19) 19 = some (stcl s) := by
      intro i hi
      obtain ⟨cs, h1, h2, h3⟩ := hx i hi
      obtain ⟨s, rfl⟩ := open_st h2 h3
      exact ⟨s, h1⟩
    haveI : Inhabited ST := ⟨zeroT'⟩
    obtain ⟨q, hq⟩ := Go.Deep.choose_lt each
    refine ⟨(List.range len).map q, .inr ⟨b, o, cap, xs, te, fr, by simp, hb, fun i hi => ?_⟩, trivial⟩
    have hi' : i < len := by simpa using hi
    simpa using hq i hi'
end
end Go.Proofs.YtpohkechagmjdaaDoor

namespace Go.Proofs.YtpohkechagmjdaaDoor
open Go.ChangeShapes Go.WideShapes Go.ChangeAt Go.RowKit Go.V Go.Joins Go.Shelf Go.Lib
set_option maxRecDepth 100000

section
variable {H : Type} {enc : TypeId × Value → H} {W : World}
theorem mem_bulk : ∀ {l : List (DataW H)} {d : DataW H}, d ∈ l → Rows.uptoBulk d ≤ Rows.uptoBulkAll l
  | [], _, h => by simp at h
  | x :: l, d, h => by
    unfold Rows.uptoBulkAll
    rcases List.mem_cons.1 h with h | h
    · subst h; omega
    · have := mem_bulk h; omega
theorem open_strs {fuel : Nat} {v : Value} {x : DataW H × List MemPlace} (h : DataW.trod enc Tryd.prog W 0 (fun _ => true) true fuel T_sl_string [v] = some x) : ∃ L, RowsIs strcl 1 (allH W) v L ∧ ∀ s, s ∈ L → s.size ≤ Rows.uptoBulk x.1 := by
  have hce : Tryd.prog.cellsOf T_string = 1 := by kernel_rfl
  rcases Go.Deep.open_slice (show Tryd.prog.underlying T_sl_string = some (.slice T_string) by kernel_rfl) h with ⟨h1, _⟩ | ⟨a, l, c, m, n, D, Pl, h1, _, hlc, _, hm, hxx, hx⟩
  · simp only [List.cons.injEq, and_true] at h1
    subst h1
    exact ⟨[], .inl ⟨⟨none, 0, rfl⟩, rfl⟩, by simp⟩
  · simp only [List.cons.injEq, and_true] at h1
    subst h1
    simp only [if_true] at hm
    subst hm
    rw [hce] at hx
    rcases Nat.eq_zero_or_pos l with h0 | h0
    · subst h0
      exact ⟨[], .inl ⟨⟨_, _, rfl⟩, rfl⟩, by simp⟩
    have each : ∀ i, i < m → ∃ s : ByteArray, W.cells? 0 (a.add (i * 1)) 1 = some [.string s] ∧ D i = .lit (.string s.data.toList) := by
      intro i hi
      obtain ⟨cs, g1, g2⟩ := hx i hi
      obtain ⟨s, rfl, g3, _⟩ := DataW.trod_string (show Tryd.prog.underlying T_string = some .string by kernel_rfl) g2
      simp only [Prod.mk.injEq] at g3
      exact ⟨s, g1, g3.1⟩
    haveI : Inhabited ByteArray := ⟨es⟩
    obtain ⟨q, hq⟩ := Go.Deep.choose_lt each
    obtain ⟨b, o, xs, te, fr, e1, e2, e3⟩ := row_at (k := 1) (by omega) (show 0 < m by omega) (fun i hi => (hq i hi).1)
    subst e1
    refine ⟨(List.range l).map q, .inr ⟨b, o, _, xs, te, fr, by simp; rfl, e2, fun i hi => ?_⟩, fun s hs => ?_⟩
    · have hi' : i < l := by simpa using hi
      have h9 := (e3 i (by omega)).1
      simpa [strcl] using h9
    · obtain ⟨i, hi, rfl⟩ := List.mem_map.1 hs
      have hi := List.mem_range.1 hi
      rw [hxx]
      have hm : D i ∈ List.map D (List.range l) := List.mem_map.2 ⟨i, List.mem_range.2 hi, rfl⟩
      have h3 := mem_bulk hm
      rw [(hq i (by omega)).2] at h3
      have h4 : Rows.uptoBulk (DataW.lit (H := H) (.string (q i).data.toList)) = (q i).data.toList.length + 1 := by simp [Rows.uptoBulk]
      have h5 : (q i).data.toList.length = (q i).size := by simp
      have h6 : Rows.uptoBulk (DataW.slice (H := H) (List.map D (List.range l)) (List.map (fun j => D (l + j)) (List.range (m - l)))) = Rows.uptoBulkAll (List.map D (List.range l)) + Rows.uptoBulkAll (List.map (fun j => D (l + j)) (List.range (m - l))) + 1 := by simp [Rows.uptoBulk]
      show _ ≤ Rows.uptoBulk (DataW.slice (H := H) (List.map D (List.range l)) (List.map (fun j => D (l + j)) (List.range (m - l))))
      omega
end
abbrev upS : OpenSpec := Rows.OpenSpec.upto Rows.auctUsersSpec
theorem auctUsers_lifted (os : Os) (started : os.Started) (H : Type) (enc : TypeId × Value → H) (F : Stop.Interp) :
    ReturnsInHanded {} Tryd.checked os 7 .any (fun w args => (upS.pre enc Tryd.prog Tryd.f7 [] false w args ∧ laidMetH Tryd.prog laidB w) ∧ sizedMet enc Tryd.prog Tryd.f7 upS false w args)
      ((upS.at F).post enc Tryd.prog Tryd.f7 false true false false) := by
  refine returnsInHanded_of_calls own started (by kernel_rfl) ?_ ?_
  · obtain ⟨w, tape, i, h1, h2, h3, h4, ⟨⟨⟨ds, gs, before, hW, hc⟩, hX, ha⟩, hs⟩, hh⟩ := ChangeSpec.witness_shaped (s := Rows.auctUsersSpec) (fn := Tryd.f7) (f := 7) (conds := []) (apart := false) (enc := enc) (C := Tryd.checked) (os := os) (X := fun w a => laidMetH Tryd.prog laidB w ∧ a = #[.slice none 0 0]) false (World.laidAll Tryd.prog os laidB) #[.slice none 0 0] 8 (World.laidAll_os _ _ _)
      (World.shaped_of_ZipB (by kernel_rfl) (by kernel_rfl)) (by kernel_rfl) (by kernel_rfl) (by kernel_rfl)
      ⟨by rw [MakeChecks.laidMetH_plain _ _ _ (by kernel_rfl)]; exact laidMet_laidAll _ (by kernel_rfl) (by kernel_rfl), rfl⟩
    refine ⟨w, tape, i, h1, h2, h3, h4, ⟨⟨(OpenSpec.pre_some rfl [] false _ _).2 ⟨ds, gs, before, hW, hc, ?_⟩, hX⟩, hs⟩, hh⟩
    obtain ⟨p, q, hA0, hV, rfl, hfz, hnd⟩ := hW
    have hA : DataW.TrodAll enc Tryd.prog (w.forCall tape i).memory 0 (fun _ => true) true Tryd.f7.params.toList i.args.toList ds p := hA0
    rw [Tryd.params7, ha] at hA
    obtain ⟨v0, vs0, d0, ds0, p0, q0, hargs, rfl, rfl, h0, r0⟩ := trodAll_cons hA
    obtain ⟨hnil, rfl, rfl⟩ := trodAll_nil r0
    obtain ⟨rfl, rfl⟩ := trodVars_none hV
    obtain ⟨m0, h0⟩ := h0
    have hv0 : v0 = .slice none 0 0 := by simp at hargs; exact hargs.1.symm
    subst hv0
    rcases Go.Deep.open_slice (show Tryd.prog.underlying T_sl_string = some (.slice T_string) by kernel_rfl) h0 with ⟨_, hx⟩ | ⟨a, l, c, m, n, D, Pl, h1, _⟩
    · obtain rfl : d0 = .nil := congrArg Prod.fst hx
      have h3 : Rows.uptoBulkAll ([DataW.nil (H := H)] ++ []) = 1 := by simp [Rows.uptoBulkAll, Rows.uptoBulk]
      show decide (Rows.uptoBulkAll ([DataW.nil (H := H)] ++ []) ≤ 1048576) = true
      rw [h3]; decide
    · exact absurd (List.cons.inj h1).1 (by intro h9; cases h9)
  · intro w tape i _ _ _ hok hpre hholds
    obtain ⟨_, _, _, fn', hfn', _, _, _, _, hval0⟩ := hok
    have e : fn' = Tryd.f7 := Option.some.inj (hfn'.symm.trans Tryd.func7)
    subst e
    obtain ⟨⟨hp, hX⟩, hz⟩ := hpre
    obtain ⟨ds, gs, before, hw, hc, hkk⟩ := (OpenSpec.pre_some rfl [] false _ _).1 hp
    have hW := DataW.Whole.of_heap (w' := w.forCall tape i) (by rfl) hw
    have hL : laidMetH Tryd.prog laidB (w.forCall tape i) := hX.of_heap (by rfl)
    refine Calls.mono (?_ : Calls Tryd.prog 7 i.args (w.forCall tape i) fun e W' => ∃ v, e = .returned v ∧ (upS.at F).post enc Tryd.prog Tryd.f7 false true false false (w.forCall tape i) i.args v W') fun e W' ⟨v, he, hp⟩ => by
      subst he
      exact ChangeSpec.post_blind hp
    generalize hWW : w.forCall tape i = W at *
    generalize hargs0 : i.args = args at *
    have hval : ∀ (j : Nat) t v, Tryd.f7.params[j]? = some t → args[j]? = some v → Value.okWide Tryd.prog W .any _ t v := hval0
    have hW' := hW
    obtain ⟨p, q, hA0, hV, rfl, hfz, hnd⟩ := hW
    have hA : DataW.TrodAll enc Tryd.prog W 0 (fun _ => true) true Tryd.f7.params.toList args.toList ds p := hA0
    rw [Tryd.params7] at hA hval
    obtain ⟨v0, vs0, d0, ds0, p0, q0, hargs, rfl, rfl, h0, r0⟩ := trodAll_cons hA
    obtain ⟨rfl, rfl, rfl⟩ := trodAll_nil r0
    obtain rfl : args = #[v0] := by cases args; simp_all
    obtain ⟨rfl, rfl⟩ := trodVars_none hV
    rw [MakeChecks.laidMetH_plain _ _ _ (by kernel_rfl)] at hL
    obtain ⟨hU, hC⟩ := tabs_all hL
    have k0 := h0
    have lt0 : ∀ x ∈ p0, x.block < W.heap.size := by obtain ⟨m, hm⟩ := k0; exact DataW.trod_lt m _ _ _ hm
    obtain ⟨a0, len0, cap0, rfl⟩ := okWide_slice Tryd.underlying54 (hval 0 54 v0 rfl rfl)
    obtain ⟨m0, h0⟩ := h0
    obtain ⟨L0, hL0, hP0⟩ := open_strs h0
    have hb : Rows.uptoBulk d0 ≤ 1048576 := by
      have h1 : decide (Rows.uptoBulkAll ([d0] ++ []) ≤ 1048576) = true := hkk
      have h2 := of_decide_eq_true h1
      have h3 : Rows.uptoBulkAll ([d0] ++ []) = Rows.uptoBulk d0 := by simp [Rows.uptoBulkAll]
      omega
    refine Calls.mono (ctr_all (s_AuctUsers (allH W) hU hC _ L0 hL0 (fun s hs => by have h9 : s.size ≤ Rows.uptoBulk d0 := hP0 s hs; omega)) rfl rfl (r := .bool true) ?_) fun e W' ⟨he, bel⟩ => ?_
    · rintro v H' ρ' ⟨rfl, rfl⟩; exact ⟨rfl, _, rfl, Sub.refl _⟩
    subst he
    exact ⟨_, rfl, _, _, _, [], _, [], hW', trodAll_mk1 (shut_bool Tryd.underlying4 _), (trodAll_cons_mk (Below.trod laidOut (by kernel_rfl) (of_decide_eq_true (by kernel_rfl)) k0 bel lt0) trodAll_mk0), rfl, bel.frame _, fun h => by cases h⟩
theorem auctUsersUpto_row : Rows.auctUsersUptoRow.holds Tryd.pinned upS :=
  OpenClaim.holds_of_cond 7 Tryd.f7 rfl rfl rfl rfl rfl rfl rfl ⟨rfl, rfl, rfl, rfl, rfl⟩ rfl rfl rfl rfl rfl (by kernel_rfl) Tryd.func7 (by kernel_rfl)
    (of_decide_eq_true (by kernel_rfl)) (by unfold Func.isWrapper; first | (rw [if_pos (by decide +kernel)]; kernel_rfl) | (rw [if_neg (by decide +kernel)]; exact ⟨rfl, rfl⟩))
    (fun os started H enc _ F => auctUsers_lifted os started H enc F)
theorem auctUsersUptoCard_holds : Rows.AuctUsersUptoCardSaid :=
  Claim7.holds_tied_plain_at .later [] [.data, .pinned, .pinned, .pinned] true (true, "78e95c6280531e46b1fb6dbb74f99c8156cc14e82c6bcfc89ebe3429242cff9d") false auctUsersUpto_row (fun _ h => by cases h) (by kernel_rfl) (fun _ h => by cases h) auctUsersUpto_row_tie rfl ⟨rfl, rfl⟩ (by kernel_rfl) rfl
    (fun f fn hf hfn => by
      obtain rfl : f = 7 := Option.some.inj ((show Tryd.prog.funcNamed "rostrum/rostrumlaw24.AuctUsers" = some 7 by kernel_rfl).symm.trans hf) |>.symm
      obtain rfl : fn = Tryd.f7 := (Option.some.inj (Tryd.func7.symm.trans hfn)).symm
      exact ⟨by kernel_rfl, fun j t ht => by
        rw [Tryd.params7] at ht
        have hm : t ∈ [54] := by simpa using Array.mem_of_getElem? ht
        have hall : ([54].all fun u => !Tryd.prog.wantsStandIn u) = true := by kernel_rfl
        exact (show Tryd.prog.wantsStandIn t = false by simpa using List.all_eq_true.1 hall t hm)⟩)
    (by kernel_rfl)
end Go.Proofs.YtpohkechagmjdaaDoor

