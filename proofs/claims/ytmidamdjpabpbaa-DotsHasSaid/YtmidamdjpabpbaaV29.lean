/- Part of the proof that the statement named in the last file holds: lemmas of the prover's own. No conditions. -/
import Derived.Test.YtmidamdjpabpbaaV28
namespace Go.V
open Go

section
variable {P : Program} {α : Type} {tS tE : TypeId} {n : Option Nat} {sz by' : Nat} {zs zsl : List Value} {sv : α → SV} {cells : α → List Value}

theorem ap_ctr {f gq : FuncId} {caps : List SV} {H : List SO} {S : List α → Prop} {N : Nat} (h : Elem P tE n sz by' zs sv cells) (hzl : zsl.length = sz) (hap : IsAp P f tS tE n sz by' zs zsl)
    (hg : Gives P gq caps H (fun x => V.val (fun _ => none) (sv x)) S N) (he : enters P gq = true) (hN : N * by' ≤ 1099511627776) (hp : plainH H = true) :
    Ctr P f [.raw (.slice none 0 0), .fn gq caps] H (fun x H' => ∃ order o c ys, S order ∧ x = .sl (H.length + 1) o order.length c ∧ H' = H ++ [.gone, .arr ys tE] ∧
      order.length ≤ c ∧ o + c * sz ≤ ys.length ∧ (ys.drop o).take (order.length * sz) = order.flatMap cells) := by
  obtain ⟨fn, i0, i1, i2, i3, i4, b0, b1, ops0, ops1, ops2, ops3, ops4, hf, hbody, c0, c1, c2, c3, c4, hnt, hres⟩ := hap
  intro ρ g w hS hb
  have hbc : belowL H.length caps = true := by simpa [belowL, below] using hb
  refine (callsIn_wide (n := 0)).1 (callsIn_of_wp_marks (F := Fence.wide) (n := 0) hf hbody trivial ?_ rfl)
  have hA : At P ρ H g w [.raw (.slice none 0 0), .fn gq caps, un, un, un, un, un, un, un, un, un, un, un]
      { tmps := (valL ρ [.raw (.slice none 0 0), .fn gq caps]).toArray ++ Array.replicate (fn.ntmps - (valL ρ [.raw (.slice none 0 0), .fn gq caps]).toArray.size) undef, defers := [] } := by
    refine ⟨?_, by simp [belowL, below, hbc], hS⟩
    simp only [Frm, hnt]
    apply Array.toList_inj.1
    simp [valL, val, undef, List.replicate]
  refine wpIn_seq (vcReg_regionIn (.inl rfl) c0 (Q' := fun t' H' => t' = [.raw (.slice none 0 0), .fn gq caps, .ptr H.length 0, un, .raw (.slice none 0 0), un, un, un, un, un, un, un, un] ∧ H' = H ++ [.cells [.raw (.slice none 0 0)] tS]) ?_ hA rfl ?_)
  rotate_left 1
  · simp [vcReg, vcIns, vcOp, evK, getK, putK_eq, put, newHK_eq, one]
  rintro a1 w1 ⟨ρ1, t1, H1, hA1, hd1, hρ1, _, rfl, rfl⟩
  refine wpIn_seq (wpIn_seq (vcReg_regionIn (.inl rfl) c1 (Q' := fun t' H' => t' = [.raw (.slice none 0 0), .fn gq caps, .ptr H.length 0, un, .raw (.slice none 0 0), un, .fn gq caps, un, un, un, un, un, un] ∧ H' = H ++ [.cells [.raw (.slice none 0 0)] tS]) ?_ hA1 hd1 ?_))
  rotate_left 1
  · simp [vcReg, vcIns, vcOp, evK, getK, putK_eq, put]
  rintro a2 w2 ⟨ρ2, t2, H2, hA2, hd2, hρ2, _, rfl, rfl⟩
  have hρ : ∀ k, k < H.length → ρ2 k = ρ k := fun k hk => (hρ2 k (by simp; omega)).trans (hρ1 k hk)
  refine wpIn_block (wpIn_rangeFunc ?_)
  intro fn' _
  obtain ⟨Bs, hBρ, hBh⟩ := hA2.s.ent H.length (.cells [.raw (.slice none 0 0)] tS) (by simp)
  have hBh' : w2.heap[Bs]? = some (.cells #[.slice none 0 0] tS (0, 0)) := by simpa [valL, val] using hBh
  have hBlt : Bs < w2.heap.size := (Array.getElem?_eq_some_iff.1 hBh').1
  let D := w2.heap.size
  let l := w2.heap.size + 1
  let rec' : Loop := { state := .ready, pending := none, fn := fn', tmps := a2.tmps, params := #[7], assign := .region i2 ops2 false, body := .block b1 (.region i3 ops3 false), defers := D }
  let capsV := (valL ρ2 caps).toArray
  have hcaps : valL ρ2 caps = valL ρ caps := valL_congr hρ caps hbc
  have hev : a2.eval (.tmp 6) = .func (.func gq) #[] capsV := by
    rw [hA2.eq (y := .t 6) rfl]; simp [ev, val, capsV]
  -- the state that the iterator sees
  have s1 : St ρ H (g.at Bs (some (.cells #[.slice none 0 0] tS (0, 0)))) w2 := hS.toFrame hA2.s hρ hBρ hBh'
  have s2 := s1.allocFrame (.deferred (some []))
  have s3 := s2.allocFrame (.loop rec')
  have hsz : (w2.alloc (.deferred (some []))).heap.size = l := by simp [l]
  rw [hsz] at s3
  have hDl : D ≠ l := by simp [D, l]
  have hBD : Bs ≠ D := by simp only [D]; omega
  have hBl : Bs ≠ l := by simp only [l]; omega
  have hgB : g.f Bs = none := hA2.s.frd H.length (.cells [.raw (.slice none 0 0)] tS) Bs (by simp) rfl hBρ
  have hgN : ∀ b, w2.heap.size ≤ b → g.f b = none := by
    intro b hb
    cases hx : g.f b with
    | none => rfl
    | some o =>
      have := (Array.getElem?_eq_some_iff.1 (hA2.s.frm b o hx)).1
      omega
  have hJ0 : ApJ tS tE sz cells g Bs D l rec' ([] : List α) (((g.at Bs (some (.cells #[.slice none 0 0] tS (0, 0)))).at D (some (.deferred (some [])))).at l (some (.loop rec'))) := by
    refine ⟨⟨rfl, rfl, rfl, rfl⟩, ?_, by simp [Fr.at], by simp [Fr.at, hDl], ⟨hgB, hgN l (by simp [l]), hgN D (by simp [D])⟩, none, 0, 0, [], ?_, by simp, .inl ⟨rfl, rfl⟩⟩
    · intro b o hb
      have k1 : b ≠ Bs := by rintro rfl; rw [hgB] at hb; cases hb
      have k2 : b ≠ D := by rintro rfl; rw [hgN D (by simp [D])] at hb; cases hb
      have k3 : b ≠ l := by rintro rfl; rw [hgN l (by simp [l])] at hb; cases hb
      simp only [Fr.at]
      rw [if_neg k3, if_neg k2, if_neg k1]; exact hb
    · simp only [Fr.at]
      rw [if_neg hBl, if_neg hBD]; simp
  have htm : a2.tmps = #[.slice none 0 0, .func (.func gq) #[] capsV, .pointer (some ⟨Bs, 0, none⟩), undef, .slice none 0 0, undef, .func (.func gq) #[] capsV, undef, undef, undef, undef, undef, undef] := by
    rw [hA2.f]
    simp [valL, val, undef, hBρ, capsV]
  have hround := ap_round (tS := tS) (Bs := Bs) (g0 := g) (D := D) (l := l) (rec := rec') h hzl c2 c3 rfl rfl rfl rfl rfl htm hN
  refine ⟨l, [{ target := .collected D, args := #[] }], (w2.alloc (.deferred (some []))).alloc (.loop rec'), { target := .fn (.func gq) capsV, args := #[.func (.yield l) #[] #[]] }, (w2.alloc (.deferred (some []))).alloc (.loop rec'), gq, #[.func (.yield l) #[] #[]] ++ capsV, (w2.alloc (.deferred (some []))).alloc (.loop rec'),
    run_enterLoop_outer fn' a2.tmps #[7] (.region i2 ops2 false) (.block b1 (.region i3 ops3 false)), ?_, fun _ _ => trivial, ?_, (fun hh => (by cases hh)), ?_⟩
  · have ha : (#[Operand.const (.func (.yield l) #[] #[])] : Array Operand).map a2.eval = #[.func (.yield l) #[] #[]] := by simp [Act.eval]
    simp only [resolve, hev, ha, Deferred.ofValue, Sem.run_pure]
    simp
  · simp only [invoke]; exact run_enters he _
  refine callsIn_wide.2 ?_
  have hcall := hg l _ ρ _ _ s3 hbc hJ0 hround
  rw [show (#[.func (.yield l) #[] #[]] ++ capsV : Array Value) = #[.func (.yield l) #[] #[]] ++ (valL ρ caps).toArray by simp only [capsV, hcaps]]
  refine Calls.mono hcall ?_
  rintro e w3 ⟨⟨v, rfl⟩, order, gf, hSo, hJ3, hS3⟩
  have hcov3 := hS3.isCov
  have hl3 : w3.heap[l]? = some (.loop rec') := hcov3.2 _ _ hJ3.lrec
  have hend := run_endLoop (P := P) hl3 (by simp [rec'])
  refine ⟨_, _, hend, ?_⟩
  -- behind the loop
  have hS4 := hS3.outside hp (o' := .loop { rec' with state := .exhausted }) hJ3.lrec
  have hJ4 := hJ3.turn { rec' with state := .exhausted }
  have hD4 := hS4.isCov.2 D _ hJ4.dd
  obtain ⟨r, o, c, ys, hlen, hS5⟩ := ap_join hp hS4 hJ4
  have hS6 : St _ _ (g.at D (some (.deferred (some [])))) _ := hS5.cov (g' := g.at D (some (.deferred (some [])))) ⟨hS5.env, fun b ob hb => by
    simp only [Fr.at] at hb
    split at hb
    · rename_i e; subst e; cases hb; exact hD4
    · exact hS5.frm b ob hb⟩ (fun i si b hi ho hb => by
      simp only [Fr.at]
      split
      · rename_i e; subst e; exact (owned_not_deferred (hS5.ent i si hi) ho hb hD4).elim
      · exact hS5.frd i si b hi ho hb)
  have e0 : upd (upd ρ H.length (some Bs)) (H.length + 1) r H.length = some Bs := by rw [upd_lt _ _ (by omega), upd_same]
  have hA5 : At P (upd (upd ρ H.length (some Bs)) (H.length + 1) r) (H ++ [.cells [.sl (H.length + 1) o order.length c] tS, .arr ys tE]) (g.at D (some (.deferred (some [])))) (w3.putObj l (.loop { rec' with state := .exhausted }))
      [.raw (.slice none 0 0), .fn gq caps, .ptr H.length 0, un, .raw (.slice none 0 0), un, .fn gq caps, un, un, un, un, un, un] { a2 with defers := [{ target := .collected D, args := #[] }] ++ a2.defers } := by
    refine ⟨?_, ?_, hS6⟩
    · simp only [Frm, htm]
      have hc5 : valL (upd (upd ρ H.length (some Bs)) (H.length + 1) r) caps = valL ρ caps := valL_congr (fun k hk => by rw [upd_lt _ _ (by omega), upd_lt _ _ hk]) caps hbc
      apply Array.toList_inj.1
      simp [valL, val, undef, e0, capsV, hcaps, hc5]
    · have := belowL_mono (show H.length ≤ (H ++ [SO.cells [.sl (H.length + 1) o order.length c] tS, .arr ys tE]).length by simp) caps hbc
      simp [belowL, below] at this ⊢
      exact this
  refine wpIn_seq (vcReg_regionIn (.inl rfl) c4 (Q' := fun t' H' => t' = [.raw (.slice none 0 0), .fn gq caps, .ptr H.length 0, un, .sl (H.length + 1) o order.length c, un, .fn gq caps, un, un, un, un, un, .sl (H.length + 1) o order.length c] ∧ H' = H ++ [.cells [.sl (H.length + 1) o order.length c] tS, .arr ys tE]) ?_ hA5 rfl ?_)
  rotate_left 1
  · have ho : obj (H ++ [SO.cells [.sl (H.length + 1) o order.length c] tS, .arr ys tE]) H.length = .cells [.sl (H.length + 1) o order.length c] tS := by simp [obj]
    simp [vcReg, vcIns, vcOp, evK, getK, putK_eq, put, vcLoad, objK_eq, ho]
  rintro a6 w6 ⟨ρ6, t6, H6, hA6, hd6, hρ6, _, rfl, rfl⟩
  refine wpIn_ret ?_
  have hD6 : w6.heap[D]? = some (.deferred (some [])) := hA6.s.frm D _ (by simp [Fr.at])
  show LeavesInM Fence.wide 0 P fn a6.tmps _ a6.defers .returning w6
  rw [hd6, hd2]
  refine ⟨by simp, .inl ⟨D, _, rfl, run_takeDeferred hD6, ?_⟩⟩
  have hres6 : (results fn a6.tmps).run P (w6.putObj D (.deferred none)) = .ok (val ρ6 (.sl (H.length + 1) o order.length c)) (w6.putObj D (.deferred none)) := by
    have ht6 : a6.tmps.getD 4 undef = val ρ6 (.sl (H.length + 1) o order.length c) := by
      rw [hA6.f]; exact val_getD ρ6 _ 4
    unfold results
    rw [hres, Array.mapM_eq_mapM_toList]
    simp only [List.mapM_cons, List.mapM_nil, Sem.run_bind, Sem.run_map, Sem.run_pure, Result.andThen_ok, ht6]
    simp
  show LeavesIn Fence.wide 0 P fn a6.tmps _ [] .returning _
  refine ⟨_, hres6, ρ6, _, H ++ [.gone, .arr ys tE], rfl, ?_, ?_, by simp, by simp [below], order, o, c, ys, hSo, rfl, rfl, hlen.1, hlen.2.1, hlen.2.2⟩
  · have hS7 := hA6.s.outside (o' := .deferred none) (l := D) (o := .deferred (some [])) ?_ (by simp [Fr.at])
    · have hS8 := hS7.cov (g' := g) ⟨hS7.env, fun b ob hb => hS7.frm b ob (by
        simp only [Fr.at]
        have k2 : b ≠ D := by rintro rfl; rw [hgN D (by simp [D])] at hb; cases hb
        rw [if_neg k2, if_neg k2]; exact hb)⟩ (fun i si b hi ho hb => by
          have := hS7.frd i si b hi ho hb
          simp only [Fr.at] at this
          split at this
          · cases this
          · exact this)
      have := hS8.giveUp H.length
      simpa using this
    · have : ∀ (H : List SO), plainH H = true → ∀ l, plainH l = true → plainH (H ++ l) = true := by
        intro H
        induction H with
        | nil => intro _ l hl; exact hl
        | cons s H ih =>
          intro hs l hl
          cases s <;> simp [plainH, SO.owned] at hs ⊢ <;> exact ih hs l hl
      exact this H hp _ (by simp [plainH, SO.owned])
  · intro k hk
    rw [hρ6 k (by simp; omega), upd_lt _ _ (by omega), upd_lt _ _ hk]
end
end Go.V
