/- Part of the proof that the statement named in the last file holds: lemmas of the prover's own. No conditions. -/
import Derived.Test.YtmidamdjpabpbaaD4
import Derived.Test.YtmidamdjpabpbaaV33
import Derived.Test.YtmidamdjpabpbaaL8
namespace Go.Proofs
open Go Go.V
set_option maxRecDepth 100000
set_option linter.unusedVariables false

/-! ### Iterators over dots -/
abbrev dcl (d : Int × Int) : List Value := [.int .i64 d.1, .int .i64 d.2]
abbrev dsv (d : Int × Int) : SV := .agg (dcells d.1 d.2)
theorem el_Dot : Elem Try.prog T_api_Dot (some 2) 2 16 [.int .i64 0, .int .i64 0] dsv dcl where
  shape := by kernel_rfl
  size := by kernel_rfl
  bytes := by kernel_rfl
  zero := by kernel_rfl
  zlen := rfl
  pos := ⟨by omega, by omega⟩
  sv_cells := fun x => .inr ⟨2, rfl, rfl⟩
  len := fun x => rfl
  ok := fun x => rfl

theorem ap_Dot : IsAp Try.prog F_slices_AppendSeq_sl_api_Dot_api_Dot T_sl_api_Dot T_api_Dot (some 2) 2 16 [.int .i64 0, .int .i64 0] [.int .i64 0, .int .i64 0] :=
  ⟨_, _, _, _, _, _, _, _, _, _, _, _, _, rfl, rfl, by kernel_rfl, by kernel_rfl, by kernel_rfl, by kernel_rfl, by kernel_rfl, rfl, rfl⟩

theorem it_Dot : IsIt Try.prog F_maps_Keys_map_api_Dot_bool_api_Dot_bool_1 T_api_Dot (some 2) [.int .i64 0, .int .i64 0] 0 :=
  ⟨_, _, _, _, _, _, _, _, _, _, _, rfl, rfl, by kernel_rfl, by kernel_rfl, by kernel_rfl, by kernel_rfl, rfl, rfl⟩

abbrev T_boxD : TypeId := T_map_api_Dot_bool
def kOf (e : MapEntry) : Int × Int := match e.key with
  | .agg ⟨[.int _ a, .int _ b]⟩ => (a, b)
  | _ => (0, 0)
def keysOf (ms : DM) : List (Int × Int) := ms.map (·.1)

theorem Gives.weak {α : Type} {P : Program} {f : FuncId} {caps : List SV} {H : List SO} {enc : α → Value} {S S' : List α → Prop} {N : Nat} (h : Gives P f caps H enc S N) (hS : ∀ xs, S xs → S' xs) : Gives P f caps H enc S' N := by
  intro l J ρ g W h1 h2 h3 h4
  refine Calls.mono (h l J ρ g W h1 h2 h3 h4) ?_
  rintro e w' ⟨hv, xs, g', h5, h6, h7⟩
  exact ⟨hv, xs, g', hS xs h5, h6, h7⟩

theorem Ctr.weak {P : Program} {f : FuncId} {args : List SV} {H : List SO} {Post Post' : SV → List SO → Prop} (h : Ctr P f args H Post) (hp : ∀ v H', Post v H' → Post' v H') : Ctr P f args H Post' := by
  intro ρ g w h1 h2
  refine Calls.mono (h ρ g w h1 h2) ?_
  rintro e w' ⟨ρ', v, H', h3, h4, h5, h6, h7, h8⟩
  exact ⟨ρ', v, H', h3, h4, h5, h6, h7, hp _ _ h8⟩

theorem gv_Keys (ms : DM) (c : Nat) (hm : MOK ms c) : Gives Try.prog F_maps_Keys_map_api_Dot_bool_api_Dot_bool_1 [.ptr 0 0] [.cells [.mp 1] T_boxD, dmap ms c] (fun x => V.val (fun _ => none) (dsv x)) (fun xs => xs.Perm (keysOf ms)) ms.length := by
  have e1 : (ents encD encU ms).length = ms.length := by simp [ents]
  have e2 : (ents encD encU ms).map kOf = keysOf ms := by
    simp only [ents, keysOf, List.map_map]
    exact List.map_congr_left fun x _ => rfl
  have h := it_gives el_Dot it_Dot (tB := T_boxD) (es := ents encD encU ms) (c := c) kOf ?_ ?_ ?_
  · rw [e1] at h
    refine Gives.weak h ?_
    rintro xs ⟨order, h1, rfl⟩
    rw [← e2]; exact h1.map _
  · intro e he
    obtain ⟨x, _, rfl⟩ := List.mem_map.1 he
    rfl
  · intro e he
    obtain ⟨x, hx, rfl⟩ := List.mem_map.1 he
    exact hm.1 x hx
  · simp only [ents, List.map_map]
    exact hm.2

/-- A row of dots in cells. -/
def Row (xs : List Value) (o c : Nat) (d : List (Int × Int)) : Prop := d.length ≤ c ∧ o + c * 2 ≤ xs.length ∧ (xs.drop o).take (d.length * 2) = d.flatMap dcl

/-- A row's dot. -/
theorem Row.cut {xs : List Value} {o c : Nat} {d : List (Int × Int)} (h : Row xs o c d) (i : Nat) (hi : i < d.length) : V.cut xs (o + i * 2) 2 = some (dcl d[i]) := by
  obtain ⟨h1, h2, h3⟩ := h
  rw [cut_take xs _ 2 (by omega)]
  congr 1
  have hk : ∀ x : Int × Int, (dcl x).length = 2 := fun _ => rfl
  apply List.ext_getElem?
  intro j
  by_cases hj : j < 2
  · rw [List.getElem?_take_of_lt hj, List.getElem?_drop]
    have h4 := flatMap_get hk d (i * 2 + j) (by omega)
    rw [← h3, List.getElem?_take_of_lt (by omega), List.getElem?_drop] at h4
    rw [show o + i * 2 + j = o + (i * 2 + j) by omega, h4, show (i * 2 + j) / 2 = i by omega, show (i * 2 + j) % 2 = j by omega, getElem!_pos d i hi]
  · rw [List.getElem?_eq_none (by simp; omega), List.getElem?_eq_none (by simp; omega)]

theorem s_maps_Keys (ms : DM) (c : Nat) : Ctr Try.prog F_maps_Keys_map_api_Dot_bool_api_Dot_bool [.mp 0] [dmap ms c] (fun x H => x = .fn F_maps_Keys_map_api_Dot_bool_api_Dot_bool_1 [.ptr 1 0] ∧ H = [dmap ms c, .cells [.mp 0] T_boxD]) := by
  refine i_maps_Keys_map_api_Dot_bool_api_Dot_bool.spec follows ?_
  exact VRet.mk [0, 1] (.fn F_maps_Keys_map_api_Dot_bool_api_Dot_bool_1 [.ptr 1 0]) [dmap ms c, .cells [.mp 0] T_boxD] ⟨rfl, rfl, rfl⟩ ⟨rfl, rfl⟩

theorem s_AppendSeq (ms : DM) (c : Nat) (hm : MOK ms c) (hl : ms.length ≤ 1000000) : Ctr Try.prog F_slices_AppendSeq_sl_api_Dot_api_Dot [.raw (.slice none 0 0), .fn F_maps_Keys_map_api_Dot_bool_api_Dot_bool_1 [.ptr 0 0]] [.cells [.mp 1] T_boxD, dmap ms c]
    (fun x H => ∃ d o c' ys, x = .sl 3 o d.length c' ∧ H = [.cells [.mp 1] T_boxD, dmap ms c, .gone, .arr ys T_api_Dot] ∧ d.Perm (keysOf ms) ∧ Row ys o c' d) := by
  have h := ap_ctr el_Dot rfl ap_Dot (gv_Keys ms c hm) (by kernel_rfl) (by omega) rfl
  refine Ctr.weak h ?_
  rintro x H ⟨d, o, c', ys, h1, rfl, rfl, h2, h3, h4⟩
  exact ⟨d, o, c', ys, rfl, rfl, h1, h2, h3, h4⟩

theorem s_Collect (ms : DM) (c : Nat) (hm : MOK ms c) (hl : ms.length ≤ 1000000) : Ctr Try.prog F_slices_Collect_api_Dot [.fn F_maps_Keys_map_api_Dot_bool_api_Dot_bool_1 [.ptr 0 0]] [.cells [.mp 1] T_boxD, dmap ms c]
    (fun x H => ∃ d o c' ys, x = .sl 2 o d.length c' ∧ H = [.cells [.mp 1] T_boxD, dmap ms c, .arr ys T_api_Dot] ∧ d.Perm (keysOf ms) ∧ Row ys o c' d) := by
  refine i_slices_Collect_api_Dot.spec follows ?_
  refine VCall.mk [0, 1] (s_AppendSeq ms c hm hl) ⟨rfl, rfl, rfl⟩ ?_
  rintro _ _ ⟨d, o, c', ys, rfl, rfl, hp, hr⟩
  exact VRet.mk [0, 1, 3] (.sl 2 o d.length c') [.cells [.mp 1] T_boxD, dmap ms c, .arr ys T_api_Dot] ⟨rfl, rfl, rfl⟩ ⟨d, o, c', ys, rfl, rfl, hp, hr⟩

theorem cmpD_lt {x y : Int × Int} : cmpD x y < 0 ↔ x.1 < y.1 ∨ (x.1 = y.1 ∧ x.2 < y.2) := by
  simp only [cmpD, orI, cmpI]
  by_cases h1 : x.1 < y.1
  · simp [h1]
  · by_cases h2 : y.1 < x.1
    · simp [h1, h2]; omega
    · by_cases h3 : x.2 < y.2
      · simp [h1, h2, h3]; omega
      · by_cases h4 : y.2 < x.2
        · simp [h1, h2, h3, h4]
        · simp [h1, h2, h3, h4]
theorem ltOf_cmpD {x y : Int × Int} : ltOf cmpD x y = true ↔ x.1 < y.1 ∨ (x.1 = y.1 ∧ x.2 < y.2) := by
  simp only [ltOf, decide_eq_true_iff]; exact cmpD_lt
theorem swo_cmpD : Sort.SWO (ltOf cmpD) where
  irrefl := fun x => by rw [Bool.eq_false_iff, Ne, ltOf_cmpD]; omega
  trans := fun x y z => by rw [ltOf_cmpD, ltOf_cmpD, ltOf_cmpD]; omega
  ntrans := fun x y z => by rw [Bool.eq_false_iff, Bool.eq_false_iff, Bool.eq_false_iff, Ne, Ne, Ne, ltOf_cmpD, ltOf_cmpD, ltOf_cmpD]; omega

theorem s_SortFunc (d : List (Int × Int)) (xs : List Value) (o c : Nat) (hr : Row xs o c d) (hl : d.length ≤ 1000000) : Ctr Try.prog F_slices_SortFunc_sl_api_Dot_api_Dot [.sl 0 o d.length c, .fn F_dots_Order []] [.arr xs T_api_Dot]
    (fun x H => ∃ d' xs', x = .tup [] ∧ H = [.arr xs' T_api_Dot] ∧ d'.Perm d ∧ d'.Pairwise (fun a b => ¬ cmpD b a < 0) ∧ Row xs' o c d') := by
  obtain ⟨h1, h2, h3⟩ := hr
  have h := sortK_ctr Try.sortDot Try.sortDot_agg Try.sortDot_size (cells := dcl) (fun _ => rfl) (by omega) (fun _ => rfl) cmpD swo_cmpD (gq := F_dots_Order) (by kernel_rfl)
    (fun x y => Ctr.weak (s_dots_Order x.1 x.2 y.1 y.2) (fun v H' h => h.1)) (H := [.arr xs T_api_Dot]) (j := 0) (off := o) (cap := c) (xs := xs) (e := T_api_Dot) rfl d h3 (by omega) (by omega)
  refine Ctr.weak h ?_
  rintro v H' ⟨rfl, d', hp, hs, rfl⟩
  have hl := hp.length_eq
  have hf : (d'.flatMap dcl).length = d'.length * 2 := flatMap_len (f := dcl) (k := 2) (fun _ => rfl) d'
  refine ⟨d', _, rfl, rfl, hp, ?_, by omega, by rw [rowSet_len (by omega)]; omega, ?_⟩
  · refine hs.imp fun {a b} h => ?_
    simpa [ltOf] using h
  · rw [← hf]; exact rowSet_cut (by omega)

theorem s_SortedFunc (ms : DM) (c : Nat) (hm : MOK ms c) (hl : ms.length ≤ 1000000) : Ctr Try.prog F_slices_SortedFunc_api_Dot [.fn F_maps_Keys_map_api_Dot_bool_api_Dot_bool_1 [.ptr 0 0], .fn F_dots_Order []] [.cells [.mp 1] T_boxD, dmap ms c]
    (fun x H => ∃ d o c' ys, x = .sl 2 o d.length c' ∧ H = [.cells [.mp 1] T_boxD, dmap ms c, .arr ys T_api_Dot] ∧ d.Perm (keysOf ms) ∧ d.Pairwise (fun a b => ¬ cmpD b a < 0) ∧ Row ys o c' d) := by
  refine i_slices_SortedFunc_api_Dot.spec follows ?_
  refine VCall.mk [0, 1] (s_Collect ms c hm hl) ⟨rfl, rfl, rfl⟩ ?_
  rintro _ _ ⟨d, o, c', ys, rfl, rfl, hp, hr⟩
  have hdl : d.length ≤ 1000000 := by have := hp.length_eq; simp [keysOf] at this; omega
  refine VCall.mk [2] (s_SortFunc d ys o c' hr hdl) ⟨rfl, rfl, rfl⟩ ?_
  rintro _ _ ⟨d', xs', rfl, rfl, hp', hs, hr'⟩
  have hlen : d.length = d'.length := hp'.length_eq.symm
  refine VRet.mk [0, 1, 2] (.sl 2 o d.length c') [.cells [.mp 1] T_boxD, dmap ms c, .arr xs' T_api_Dot] ⟨rfl, rfl, rfl⟩ ⟨d', o, c', xs', ?_, rfl, hp'.trans hp, hs, hr'⟩
  show SV.sl 2 o d.length c' = _
  rw [hlen]

theorem s_Loose (v : Nat → Int) (ms : DM) (c : Nat) (hm : MOK ms c) (hl : ms.length ≤ 1000000) : Ctr Try.prog F_dots_Dots_Loose [.ptr 0 0] [.cells (dcs v 1) T_dots_Dots, dmap ms c]
    (fun x H => ∃ d o c' ys, x = .sl 2 o d.length c' ∧ H = [.cells (dcs v 1) T_dots_Dots, dmap ms c, .arr ys T_api_Dot] ∧ d.Perm (keysOf ms) ∧ d.Pairwise (fun a b => ¬ cmpD b a < 0) ∧ Row ys o c' d) := by
  refine i_dots_Dots_Loose.spec follows ?_
  refine VCall.mk [1] (s_maps_Keys ms c) ⟨rfl, rfl, rfl⟩ ?_
  rintro _ _ ⟨rfl, rfl⟩
  refine VCall.mk [2, 1] (s_SortedFunc ms c hm hl) ⟨rfl, rfl, rfl⟩ ?_
  rintro _ _ ⟨d, o, c', ys, rfl, rfl, hp, hs, hr⟩
  exact VRet.mk [0, 1, 3] (.sl 2 o d.length c') [.cells (dcs v 1) T_dots_Dots, dmap ms c, .arr ys T_api_Dot] ⟨rfl, rfl, rfl⟩ ⟨d, o, c', ys, rfl, rfl, hp, hs, hr⟩
end Go.Proofs
