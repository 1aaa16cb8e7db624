/- Part of the proof that the statement named in the last file holds: lemmas of the prover's own. No conditions. -/
import Derived.Test.YtmidamdjpabpbaaV24
namespace Go.V
open Go

section
variable {P : Program} {α : Type} {tS tE : TypeId} {n : Option Nat} {sz by' : Nat} {zs zsl : List Value} {sv : α → SV} {cells : α → List Value}

theorem ap_assign (h : Elem P tE n sz by' zs sv cells) (x : α) (u0 u1 u2 u3 u4 u5 u6 u8 u9 u10 u11 u12 : SV) (H : List SO) :
    vcReg P [⟨some 5, none, .new tE zs⟩, ⟨none, none, .store n (.t 5) (.t 7)⟩] [u0, u1, u2, u3, u4, u5, u6, sv x, u8, u9, u10, u11, u12] H
      (fun t' H' => t' = [u0, u1, u2, u3, u4, .ptr H.length 0, u6, sv x, u8, u9, u10, u11, u12] ∧ H' = H ++ [.cells ((cells x).map .raw) tE]) := by
  simp only [vcReg, vcIns, vcOp, rawsK_eq, newHK_eq, putK_eq, put, List.set_cons_succ, List.set_cons_zero, evK, getK, vcStore, h.stored x, objK_eq]
  have e : obj (H ++ [SO.cells (zs.map .raw) tE]) H.length = .cells (zs.map .raw) tE := by simp [obj]
  rw [e]
  simp only [paste_all (zs.map SV.raw) ((cells x).map SV.raw) (by simp [h.len x, h.zlen]), setHK_eq]
  exact ⟨trivial, by simp⟩

theorem ap_body (h : Elem P tE n sz by' zs sv cells) (hzl : zsl.length = sz) (x : α) (u0 u1 u3 u4 u6 u7 u8 u9 u10 u11 u12 : SV) (o c len : Nat) (xs : List Value)
    (hx : len ≤ c ∧ o + c * sz ≤ xs.length) (hb : (len + 1) * by' ≤ 1099511627776) :
    vcReg P [⟨some 8, none, .load none (.t 2)⟩, ⟨some 9, none, .load n (.t 5)⟩, ⟨some 10, none, .bslice tE 1 zsl [(0, sz, .t 9)]⟩, ⟨some 11, none, .append tE sz by' zs (.t 8) (.t 10)⟩, ⟨none, none, .store none (.t 2) (.t 11)⟩]
      [u0, u1, .ptr 0 0, u3, u4, .ptr 2 0, u6, u7, u8, u9, u10, u11, u12] [.cells [.sl 1 o len c] tS, .arr xs tE, .cells ((cells x).map .raw) tE]
      (fun _ H' => ∃ o' c' xs', H' = [.cells [.sl 4 o' (len + 1) c'] tS, .gone, .cells ((cells x).map .raw) tE, .arr (cells x) tE, .arr xs' tE] ∧
        len + 1 ≤ c' ∧ o' + c' * sz ≤ xs'.length ∧ (xs'.drop o').take ((len + 1) * sz) = (xs.drop o).take (len * sz) ++ cells x) := by
  have hload : ∀ K : SV → Prop, K (sv x) → vcLoad n (.ptr 2 0) [.cells [.sl 1 o len c] tS, .arr xs tE, .cells ((cells x).map .raw) tE] K := by
    intro K hK
    rcases h.sv_cells x with ⟨rfl, v, e1, e2⟩ | ⟨m, rfl, e1⟩
    · rw [e1] at hK
      simp only [vcLoad, objK, e2, List.map_cons, List.map_nil, List.getElem?_cons_zero]
      exact hK
    · have hm : m = ((cells x).map SV.raw).length := by
        have := (shape_some h.shape).2
        rw [h.size] at this
        simp [h.len x, (Option.some.inj this).symm]
      rw [e1] at hK
      simp only [vcLoad, objK, hm, cut_all]
      exact hK
  simp only [vcReg, vcIns, vcOp, putK_eq, put, evK, getK]
  have hl0 : ∀ K : SV → Prop, K (.sl 1 o len c) → vcLoad none (.ptr 0 0) [.cells [.sl 1 o len c] tS, .arr xs tE, .cells ((cells x).map .raw) tE] K := fun K hK => hK
  refine hl0 _ ?_
  simp only [List.set_cons_succ, List.set_cons_zero, getK]
  refine hload _ ?_
  simp only [getK, rawsK_eq, pasteK, evK, h.partCells x, List.length_map, h.len x, beq_self_eq_true, cond_true,
    paste_all (zsl.map SV.raw) ((cells x).map SV.raw) (by simp [h.len x, hzl]), plainL_raws, newHK_eq, List.length_cons, List.length_nil, List.cons_append, List.nil_append, Nat.reduceAdd]
  have hsl : slElems [.cells [.sl 1 o len c] tS, .arr xs tE, .cells ((cells x).map .raw) tE, .arr (cells x) tE] sz (.sl 3 0 1 1) = some (cells x, 1) := by
    simp only [slElems, obj, List.getD_cons_succ, List.getD_cons_zero, List.drop_zero, Nat.one_mul]
    rw [List.take_of_length_le (by rw [h.len x]; exact Nat.le_refl _)]
  unfold vcAppend
  rw [hsl]
  simp only [objK, setHK_eq, newHK_eq, List.set_cons_succ, List.set_cons_zero, List.length_cons, List.length_nil, Nat.reduceAdd, List.cons_append, List.nil_append]
  refine ⟨⟨⟨hx.1, hx.2, trivial⟩, ⟨by rw [h.len x, Nat.one_mul], h.ok x⟩, hb⟩, ?_⟩
  intro zs' o' c' ⟨q1, q2, q3⟩
  simp only [vcStore, stored, one, cond_true, objK, paste, setHK_eq, List.set_cons_zero]
  exact ⟨o', c', zs', rfl, q1, q2, q3⟩
end
end Go.V
