/- Part of the proof that the statement named in the last file holds: lemmas of the prover's own. No conditions. -/
import Derived.Test.YtnjibajfmceeaaaDoorDA
import Derived.Test.YtnjibajfmceeaaaDoorL16
import Derived.Test.YtnjibajfmceeaaaDoorVD
namespace Go.Proofs
open Go Go.V Go.Lib
set_option maxRecDepth 100000
set_option linter.unusedVariables false

theorem s_Have (v : Nat → Int) (ms : SM) (c : Nat) (ys : List Value) (o n cp : Nat) :
    Ctr Tryd.prog F_causal_Buffer_Have [.ptr 0 0] (bufH v ms c ys o n cp) (fun x H => x = .agg (vcells v) ∧ H = bufH v ms c ys o n cp) := by
  refine i_causal_Buffer_Have.spec follows ?_
  exact VRet.mk [0, 1, 2] (.agg (vcells v)) (bufH v ms c ys o n cp) ⟨rfl, rfl, rfl⟩ ⟨rfl, rfl⟩
def lacks (w : Nat → Int) (out : List SH) : List SH := out.filter fun s => !has w s.rep s.n
structure BHX where
  i : Nat
  n : Nat
  zs : List Value
  o : Nat
  cp : Nat
theorem s_Behind (v w : Nat → Int) (ms : SM) (c : Nat) (ys : List Value) (o cp : Nat) (out : List SH) (hr : RowG shcl 14 ys o cp out) (ho : out.length ≤ 100000) :
    Ctr Tryd.prog F_causal_Buffer_Behind [.ptr 0 0, .agg (vcells w)] (bufH v ms c ys o out.length cp) (fun x H => ∃ zs o2 cp2, x = .sl 3 o2 (lacks w out).length cp2 ∧ RowG shcl 14 zs o2 cp2 (lacks w out) ∧ H = bufH v ms c ys o out.length cp ++ [.arr zs T_shadow_Shadow]) := by
  have hcl : ∀ x, (shcl x).length = 14 := fun _ => rfl
  have hroom : o + out.length * 14 ≤ ys.length := by have := hr.2.1; have := Nat.mul_le_mul_right 14 hr.1; omega
  refine i_causal_Buffer_Behind.spec follows ?_
  refine VLoop.nil T_shadow_Shadow [5] [] ⟨rfl, rfl⟩ ?_
  refine VLoop.mk BHX (fun x => [(3, .ptr 3 0), (5, .sl 4 x.o x.n x.cp), (11, .sl 2 o out.length cp), (12, iv out.length), (13, iv x.i)]) (fun x => bufH v ms c ys o out.length cp ++ [.cells (vcells w) T_vec_Vec, .arr x.zs T_shadow_Shadow])
    (fun x => x.i ≤ out.length ∧ RowG shcl 14 x.zs x.o x.cp (lacks w (out.take x.i)) ∧ x.n = (lacks w (out.take x.i)).length) (fun x => out.length - x.i) ⟨0, 0, [], 0, 0⟩ [0, 1, 2, 3, 4]
    ⟨⟨Nat.zero_le _, ⟨by simp [lacks], by simp, by simp [lacks]⟩, by simp [lacks]⟩, rfl, rfl, rfl⟩ ?_
  rintro ⟨i, n, zs, o2, cp2⟩ ⟨hi, hz, hn⟩ g
  simp only at hi hz hn
  refine And.intro (fun h1 => ?_) (fun h1 => ?_)
  rotate_left 1
  · have h1 := of_decide_eq_false h1
    have hil : i = out.length := by simp only at h1; omega
    subst hil
    rw [List.take_length] at hz hn
    subst hn
    exact VRet.mk [0, 1, 2, 4] (.sl 3 o2 (lacks w out).length cp2) (bufH v ms c ys o out.length cp ++ [.arr zs T_shadow_Shadow]) ⟨rfl, rfl, rfl⟩ ⟨zs, o2, cp2, rfl, hz, rfl⟩
  have h1 := of_decide_eq_true h1
  have hil : i < out.length := by simp only at h1; omega
  have hw : IntKind.i64.wrap ((i : Int) + 1) = ((i + 1 : Nat) : Int) := wrap64 (by omega)
  have hcut := hr.cut hcl hil
  have hn9 : n ≤ 100000 := by
    rw [hn]
    have := List.length_filter_le (fun s => !has w s.rep s.n) (out.take i)
    have h2 : (out.take i).length ≤ out.length := by simp; omega
    show (lacks w (out.take i)).length ≤ 100000
    unfold lacks; omega
  have ht : out.take (i + 1) = out.take i ++ [out[i]] := (List.take_append_getElem hil).symm
  refine And.intro ⟨Int.natCast_nonneg i, h1, hroom⟩ (Exists.intro _ (And.intro (by rw [Int.toNat_natCast]; exact hcut) ?_))
  refine VCall.mk [] (s_vec_Has w out[i].rep out[i].n) ⟨rfl, rfl, rfl⟩ ?_
  rintro _ _ ⟨rfl, rfl⟩
  refine And.intro (fun h2 => ?_) (fun h2 => ?_)
  · have h2 : has w out[i].rep out[i].n = false := by simpa using h2
    have hlk : lacks w (out.take (i + 1)) = lacks w (out.take i) ++ [out[i]] := by rw [ht, lacks, List.filter_append]; simp [lacks, h2]
    refine And.intro ⟨⟨by rw [hn]; exact hz.1, hz.2.1, rfl⟩, ⟨rfl, rfl⟩, show (n + 1) * 128 ≤ 1099511627776 by omega⟩ ?_
    intro zs' o' cp' hz'
    refine Exists.intro _ (And.intro hw ?_)
    refine Exists.intro ⟨i + 1, n + 1, zs', o', cp'⟩ (Exists.intro [0, 1, 2, 3, 7] (And.intro ⟨⟨hil, ⟨?_, hz'.2.1, ?_⟩, ?_⟩, by simp only; omega⟩ ⟨rfl, rfl, rfl⟩))
    · rw [hlk, List.length_append, ← hn]; exact hz'.1
    · have h3 := hz'.2.2
      have h4 : (zs.drop o2).take (n * 14) = (lacks w (out.take i)).flatMap shcl := by rw [hn]; exact hz.2.2
      simp only
      rw [hlk, List.length_append, ← hn, List.flatMap_append]
      exact h3.trans (by rw [h4]; simp)
    · simp only; rw [hlk, List.length_append, ← hn]; rfl
  · have h2 : has w out[i].rep out[i].n = true := by simpa using h2
    have hlk : lacks w (out.take (i + 1)) = lacks w (out.take i) := by rw [ht, lacks, List.filter_append]; simp [lacks, h2]
    refine Exists.intro _ (And.intro hw ?_)
    refine Exists.intro ⟨i + 1, n, zs, o2, cp2⟩ (Exists.intro [0, 1, 2, 3, 4] (And.intro ⟨⟨hil, by rw [hlk]; exact hz, by rw [hlk]; exact hn⟩, by simp only; omega⟩ ⟨rfl, rfl, rfl⟩))
end Go.Proofs

namespace Go.Proofs
open Go Go.V Go.Lib
set_option maxRecDepth 100000
set_option linter.unusedVariables false

/-! ### What is held, in order -/
instance : Inhabited SH := ⟨zeroS⟩
abbrev zero14 : List Value := [.int .i64 0, .int .i64 0, .int .i64 0, .int .i64 0, .int .i64 0, .int .i64 0, .int .i64 0, .int .i64 0, .int .i64 0, .int .i64 0, .string (ByteArray.mk #[]), .string (ByteArray.mk #[]), .int .i64 0, .int .i64 0]
abbrev shsv (s : SH) : SV := .agg (shcells s)
theorem el_Sh : Elem Tryd.prog T_shadow_Shadow (some 14) 14 128 zero14 shsv shcl where
  shape := by kernel_rfl
  size := by kernel_rfl
  bytes := by kernel_rfl
  zero := by kernel_rfl
  zlen := rfl
  pos := ⟨by omega, by omega⟩
  sv_cells := fun x => .inr ⟨14, rfl, rfl⟩
  len := fun x => rfl
  ok := fun x => rfl
theorem ap_Sh : IsAp Tryd.prog F_slices_AppendSeq_sl_shadow_Shadow_shadow_Shadow T_sl_shadow_Shadow T_shadow_Shadow (some 14) 14 128 zero14 zero14 :=
  ⟨_, _, _, _, _, _, _, _, _, _, _, _, _, rfl, rfl, by kernel_rfl, by kernel_rfl, by kernel_rfl, by kernel_rfl, by kernel_rfl, rfl, rfl⟩
theorem it_Sh : IsIv Tryd.prog F_maps_Values_map_api_Dot_shadow_Shadow_api_Dot_shadow_Shadow_1 T_shadow_Shadow (some 14) zero14 1 :=
  ⟨_, _, _, _, _, _, _, _, _, _, _, rfl, rfl, by kernel_rfl, by kernel_rfl, by kernel_rfl, by kernel_rfl, rfl, rfl⟩
abbrev T_boxM : TypeId := T_map_api_Dot_shadow_Shadow
def sev (a b c d e f g : Int) : Nat → Int
  | 0 => a | 1 => b | 2 => c | 3 => d | 4 => e | 5 => f | 6 => g | _ => 0
/-- A shadow with nothing beyond the seven replicas. -/
def normS (s : SH) : SH := { s with seen := sev (s.seen 0) (s.seen 1) (s.seen 2) (s.seen 3) (s.seen 4) (s.seen 5) (s.seen 6) }
def vOf (e : MapEntry) : SH := match e.val with
  | .agg ⟨[.int _ r, .int _ n, .int _ a, .int _ b, .int _ c, .int _ d, .int _ e, .int _ f, .int _ g, .int _ k, .string ky, .string tx, .int _ y, .int _ t]⟩ => ⟨r, n, sev a b c d e f g, k, ky, tx, y, t⟩
  | _ => zeroS
def valsOf (ms : SM) : List SH := ms.map fun x => normS x.2.1
theorem Gives.weak {α : Type} {P : Program} {f : FuncId} {caps : List SV} {H : List SO} {enc : α → Value} {S S' : List α → Prop} {N : Nat} (h : Gives P f caps H enc S N) (hS : ∀ xs, S xs → S' xs) : Gives P f caps H enc S' N := by
  intro l J ρ g W h1 h2 h3 h4
  refine Calls.mono (h l J ρ g W h1 h2 h3 h4) ?_
  rintro e w' ⟨hv, xs, g', h5, h6, h7⟩
  exact ⟨hv, xs, g', hS xs h5, h6, h7⟩
theorem Ctr.weak [V.Mode] {P : Program} {f : FuncId} {args : List SV} {H : List SO} {Post Post' : SV → List SO → Prop} (h : Ctr P f args H Post) (hp : ∀ v H', Post v H' → Post' v H') : Ctr P f args H Post' := by
  intro ρ g w h1 h2
  refine Calls.mono (h ρ g w h1 h2) ?_
  rintro e w' ⟨ρ', v, H', h3, h4, h5, h6, h7, h8⟩
  exact ⟨ρ', v, H', h3, h4, h5, h6, h7, hp _ _ h8⟩
theorem gv_Vals (ms : SM) (c : Nat) (hm : MOK ms c) : Gives Tryd.prog F_maps_Values_map_api_Dot_shadow_Shadow_api_Dot_shadow_Shadow_1 [.ptr 0 0] [.cells [.mp 1] T_boxM, smap ms c] (fun x => V.val (fun _ => none) (shsv x)) (fun xs => xs.Perm (valsOf ms)) ms.length := by
  have e1 : (ents encD encS ms).length = ms.length := by simp [ents]
  have e2 : (ents encD encS ms).map vOf = valsOf ms := by
    simp only [ents, valsOf, List.map_map]
    exact List.map_congr_left fun x _ => rfl
  have h := iv_gives el_Sh it_Sh (tB := T_boxM) (es := ents encD encS ms) (c := c) vOf ?_ ?_ ?_
  · rw [e1] at h
    refine Gives.weak h ?_
    rintro xs ⟨order, h1, rfl⟩
    rw [← e2]; exact h1.map _
  · intro e he
    obtain ⟨x, _, rfl⟩ := List.mem_map.1 he
    rfl
  · intro e he
    obtain ⟨x, hx, rfl⟩ := List.mem_map.1 he
    exact hm.1 x hx
  · simp only [ents, List.map_map]
    exact hm.2
theorem s_maps_Values (ms : SM) (c : Nat) : Ctr Tryd.prog F_maps_Values_map_api_Dot_shadow_Shadow_api_Dot_shadow_Shadow [.mp 0] [smap ms c] (fun x H => x = .fn F_maps_Values_map_api_Dot_shadow_Shadow_api_Dot_shadow_Shadow_1 [.ptr 1 0] ∧ H = [smap ms c, .cells [.mp 0] T_boxM]) := by
  refine i_maps_Values_map_api_Dot_shadow_Shadow_api_Dot_shadow_Shadow.spec follows ?_
  exact VRet.mk [0, 1] (.fn F_maps_Values_map_api_Dot_shadow_Shadow_api_Dot_shadow_Shadow_1 [.ptr 1 0]) [smap ms c, .cells [.mp 0] T_boxM] ⟨rfl, rfl, rfl⟩ ⟨rfl, rfl⟩
theorem s_AppendSeq (ms : SM) (c : Nat) (hm : MOK ms c) (hl : ms.length ≤ 1000000) : Ctr Tryd.prog F_slices_AppendSeq_sl_shadow_Shadow_shadow_Shadow [.raw (.slice none 0 0), .fn F_maps_Values_map_api_Dot_shadow_Shadow_api_Dot_shadow_Shadow_1 [.ptr 0 0]] [.cells [.mp 1] T_boxM, smap ms c]
    (fun x H => ∃ d o c' ys, x = .sl 3 o d.length c' ∧ H = [.cells [.mp 1] T_boxM, smap ms c, .gone, .arr ys T_shadow_Shadow] ∧ d.Perm (valsOf ms) ∧ RowG shcl 14 ys o c' d) := by
  have h := ap_ctr el_Sh rfl ap_Sh (gv_Vals ms c hm) (by kernel_rfl) (by omega) rfl
  refine Ctr.weak h ?_
  rintro x H ⟨d, o, c', ys, h1, rfl, rfl, h2, h3, h4⟩
  exact ⟨d, o, c', ys, rfl, rfl, h1, h2, h3, h4⟩
theorem s_Collect (ms : SM) (c : Nat) (hm : MOK ms c) (hl : ms.length ≤ 1000000) : Ctr Tryd.prog F_slices_Collect_shadow_Shadow [.fn F_maps_Values_map_api_Dot_shadow_Shadow_api_Dot_shadow_Shadow_1 [.ptr 0 0]] [.cells [.mp 1] T_boxM, smap ms c]
    (fun x H => ∃ d o c' ys, x = .sl 2 o d.length c' ∧ H = [.cells [.mp 1] T_boxM, smap ms c, .arr ys T_shadow_Shadow] ∧ d.Perm (valsOf ms) ∧ RowG shcl 14 ys o c' d) := by
  refine i_slices_Collect_shadow_Shadow.spec follows ?_
  refine VCall.mk [0, 1] (s_AppendSeq ms c hm hl) ⟨rfl, rfl, rfl⟩ ?_
  rintro _ _ ⟨d, o, c', ys, rfl, rfl, hp, hr⟩
  exact VRet.mk [0, 1, 3] (.sl 2 o d.length c') [.cells [.mp 1] T_boxM, smap ms c, .arr ys T_shadow_Shadow] ⟨rfl, rfl, rfl⟩ ⟨d, o, c', ys, rfl, rfl, hp, hr⟩
theorem cmpD_lt {x y : Int × Int} : cmpD x y < 0 ↔ x.1 < y.1 ∨ (x.1 = y.1 ∧ x.2 < y.2) := by
  simp only [cmpD, orI, cmpI]
  by_cases h1 : x.1 < y.1
  · simp [h1]
  · by_cases h2 : y.1 < x.1
    · simp [h1, h2]; omega
    · by_cases h3 : x.2 < y.2
      · simp [h1, h2, h3]; omega
      · by_cases h4 : y.2 < x.2
        · simp [h1, h2, h3, h4]
        · simp [h1, h2, h3, h4]
def cfS (x y : SH) : Int := cmpD (x.rep, x.n) (y.rep, y.n)
theorem ltOf_cfS {x y : SH} : ltOf cfS x y = true ↔ x.rep < y.rep ∨ (x.rep = y.rep ∧ x.n < y.n) := by
  simp only [ltOf, decide_eq_true_iff]; exact cmpD_lt
theorem swo_cfS : Sort.SWO (ltOf cfS) where
  irrefl := fun x => by rw [Bool.eq_false_iff, Ne, ltOf_cfS]; omega
  trans := fun x y z => by rw [ltOf_cfS, ltOf_cfS, ltOf_cfS]; omega
  ntrans := fun x y z => by rw [Bool.eq_false_iff, Bool.eq_false_iff, Bool.eq_false_iff, Ne, Ne, Ne, ltOf_cfS, ltOf_cfS, ltOf_cfS]; omega
theorem s_Held_1 [V.Mode] (x y : SH) : Ctr Tryd.prog F_causal_Buffer_Held_1 [.agg (shcells x), .agg (shcells y)] [] (fun v H => v = iv (cfS x y) ∧ H = []) := by
  refine i_causal_Buffer_Held_1.spec follows ?_
  refine VCall.mk [] (s_dots_Order x.rep x.n y.rep y.n) ⟨rfl, rfl, rfl⟩ ?_
  rintro _ _ ⟨rfl, rfl⟩
  exact VRet.mk [] (iv (cfS x y)) [] ⟨rfl, rfl, rfl⟩ ⟨rfl, rfl⟩
theorem s_SortFunc (d : List SH) (xs : List Value) (o c : Nat) (hr : RowG shcl 14 xs o c d) (hl : d.length ≤ 1000000) : Ctr Tryd.prog F_slices_SortFunc_sl_shadow_Shadow_shadow_Shadow [.sl 0 o d.length c, .fn F_causal_Buffer_Held_1 []] [.arr xs T_shadow_Shadow]
    (fun x H => ∃ d' xs', x = .tup [] ∧ H = [.arr xs' T_shadow_Shadow] ∧ d'.Perm d ∧ d'.Pairwise (fun a b => ¬ cfS b a < 0) ∧ RowG shcl 14 xs' o c d') := by
  obtain ⟨h1, h2, h3⟩ := hr
  have h := sortK_ctr Tryd.sortShadow Tryd.sortShadow_agg Tryd.sortShadow_size (cells := shcl) (fun _ => rfl) (by omega) (fun _ => rfl) cfS swo_cfS (gq := F_causal_Buffer_Held_1) (by kernel_rfl)
    (fun x y => @Ctr.weak strictM _ _ _ _ _ _ (@s_Held_1 strictM x y) (fun v H' h => h.1)) (H := [.arr xs T_shadow_Shadow]) (j := 0) (off := o) (cap := c) (xs := xs) (e := T_shadow_Shadow) rfl d h3 (by omega) (by omega)
  refine Ctr.weak h ?_
  rintro v H' ⟨rfl, d', hp, hs, rfl⟩
  have hl := hp.length_eq
  have hf : (d'.flatMap shcl).length = d'.length * 14 := flatMap_len (f := shcl) (k := 14) (fun _ => rfl) d'
  refine ⟨d', _, rfl, rfl, hp, ?_, by omega, by rw [rowSet_len (by omega)]; omega, ?_⟩
  · refine hs.imp fun {a b} h => ?_
    simpa [ltOf] using h
  · rw [← hf]; exact rowSet_cut (by omega)
theorem s_SortedFunc (ms : SM) (c : Nat) (hm : MOK ms c) (hl : ms.length ≤ 1000000) : Ctr Tryd.prog F_slices_SortedFunc_shadow_Shadow [.fn F_maps_Values_map_api_Dot_shadow_Shadow_api_Dot_shadow_Shadow_1 [.ptr 0 0], .fn F_causal_Buffer_Held_1 []] [.cells [.mp 1] T_boxM, smap ms c]
    (fun x H => ∃ d o c' ys, x = .sl 2 o d.length c' ∧ H = [.cells [.mp 1] T_boxM, smap ms c, .arr ys T_shadow_Shadow] ∧ d.Perm (valsOf ms) ∧ d.Pairwise (fun a b => ¬ cfS b a < 0) ∧ RowG shcl 14 ys o c' d) := by
  refine i_slices_SortedFunc_shadow_Shadow.spec follows ?_
  refine VCall.mk [0, 1] (s_Collect ms c hm hl) ⟨rfl, rfl, rfl⟩ ?_
  rintro _ _ ⟨d, o, c', ys, rfl, rfl, hp, hr⟩
  have hdl : d.length ≤ 1000000 := by have := hp.length_eq; simp [valsOf] at this; omega
  refine VCall.mk [2] (s_SortFunc d ys o c' hr hdl) ⟨rfl, rfl, rfl⟩ ?_
  rintro _ _ ⟨d', xs', rfl, rfl, hp', hs, hr'⟩
  have hlen : d.length = d'.length := hp'.length_eq.symm
  refine VRet.mk [0, 1, 2] (.sl 2 o d.length c') [.cells [.mp 1] T_boxM, smap ms c, .arr xs' T_shadow_Shadow] ⟨rfl, rfl, rfl⟩ ⟨d', o, c', xs', ?_, rfl, hp'.trans hp, hs, hr'⟩
  show SV.sl 2 o d.length c' = _
  rw [hlen]
theorem s_Held (v : Nat → Int) (ms : SM) (c : Nat) (ys : List Value) (o n cp : Nat) (hm : MOK ms c) (hl : ms.length ≤ 1000000) :
    Ctr Tryd.prog F_causal_Buffer_Held [.ptr 0 0] (bufH v ms c ys o n cp) (fun x H => ∃ d o' c' zs, x = .sl 3 o' d.length c' ∧ H = bufH v ms c ys o n cp ++ [.arr zs T_shadow_Shadow] ∧ d.Perm (valsOf ms) ∧ d.Pairwise (fun a b => ¬ cfS b a < 0) ∧ RowG shcl 14 zs o' c' d) := by
  refine i_causal_Buffer_Held.spec follows ?_
  refine VCall.mk [1] (s_maps_Values ms c) ⟨rfl, rfl, rfl⟩ ?_
  rintro _ _ ⟨rfl, rfl⟩
  refine VCall.mk [3, 1] (s_SortedFunc ms c hm hl) ⟨rfl, rfl, rfl⟩ ?_
  rintro _ _ ⟨d, o', c', zs, rfl, rfl, hp, hs, hr⟩
  exact VRet.mk [0, 1, 2, 4] (.sl 3 o' d.length c') (bufH v ms c ys o n cp ++ [.arr zs T_shadow_Shadow]) ⟨rfl, rfl, rfl⟩ ⟨d, o', c', zs, rfl, rfl, hp, hs, hr⟩
end Go.Proofs

namespace Go.Proofs
open Go Go.V Go.Lib
set_option maxRecDepth 100000
set_option linter.unusedVariables false

theorem Dr.none {v0 v : Nat → Int} {ms0 ms : SM} {l : List SH} (h : Dr v0 ms0 l v ms) (hn : nextS v0 ms0 = none) : l = [] ∧ v = v0 ∧ ms = ms0 := by
  induction h with
  | nil => exact ⟨rfl, rfl, rfl⟩
  | snoc _ h2 ih =>
    obtain ⟨rfl, rfl, rfl⟩ := ih
    rw [hn] at h2; cases h2
theorem Dr.head {v0 v : Nat → Int} {ms0 ms : SM} {l : List SH} (h : Dr v0 ms0 l v ms) {s : SH} (hs : nextS v0 ms0 = some s) (hn : nextS v ms = .none) :
    ∃ l', l = s :: l' ∧ Dr (upv v0 s.rep.toNat s.n) (MP.del ms0 (s.rep, s.n)) l' v ms := by
  have key : ∀ {l : List SH} {v : Nat → Int} {ms : SM}, Dr v0 ms0 l v ms → (l = [] ∧ v = v0 ∧ ms = ms0) ∨ ∃ l', l = s :: l' ∧ Dr (upv v0 s.rep.toNat s.n) (MP.del ms0 (s.rep, s.n)) l' v ms := by
    intro l v ms h
    induction h with
    | nil => exact .inl ⟨rfl, rfl, rfl⟩
    | snoc h1 h2 ih =>
      rcases ih with ⟨rfl, rfl, rfl⟩ | ⟨l', rfl, h3⟩
      · rw [hs] at h2; cases h2; exact .inr ⟨[], rfl, .nil⟩
      · exact .inr ⟨l' ++ [_], rfl, h3.snoc h2⟩
  rcases key h with ⟨_, rfl, rfl⟩ | h1
  · rw [hs] at hn; cases hn
  · exact h1
def AS1 : SH := ⟨1, 1, sev 1 0 0 0 0 0 0, 3, ByteArray.mk #[107], ByteArray.mk #[], 1, 0⟩
def AS2 : SH := ⟨0, 1, sev 0 0 0 0 0 0 0, 3, ByteArray.mk #[107], ByteArray.mk #[], 1, 0⟩
theorem goodName_k : goodName (ByteArray.mk #[107]) = true := by decide +kernel
theorem good1 : goodS AS1 = true := by
  have h1 : isDot 1 1 = true := by decide
  have h2 : vgoodB (sev 1 0 0 0 0 0 0) = true := by decide
  simp only [goodS, AS1, h1, h2, goodName_k]; decide +kernel
theorem good2 : goodS AS2 = true := by
  have h1 : isDot 0 1 = true := by decide
  have h2 : vgoodB (sev 0 0 0 0 0 0 0) = true := by decide
  simp only [goodS, AS2, h1, h2, goodName_k]; decide +kernel
def vz : Nat → Int := fun _ => 0
theorem next1 : nextS vz (MP.put [] (1, 1) AS1 0) = none := by rfl
theorem next2 (c : Nat) : nextS vz (MP.put (MP.put [] (1, 1) AS1 0) (0, 1) AS2 c) = some AS2 := by rfl
theorem next3 (c : Nat) : nextS (upv vz 0 1) (MP.del (MP.put (MP.put [] (1, 1) AS1 0) (0, 1) AS2 c) (0, 1)) = some AS1 := by rfl
theorem next4 (c : Nat) : nextS (upv (upv vz 0 1) 1 1) (MP.del (MP.del (MP.put (MP.put [] (1, 1) AS1 0) (0, 1) AS2 c) (0, 1)) (1, 1)) = none := by rfl

theorem has_vz (r n : Int) (h : 1 ≤ n) : has vz r n = false := by
  have : ¬ n ≤ vz r.toNat := by show ¬ n ≤ 0; omega
  simp [has, this]
theorem cut_sub {xs : List Value} {o n : Nat} {l : List Value} (h : V.cut xs o n = some l) (j k : Nat) (hk : j + k ≤ n) : V.cut xs (o + j) k = some ((l.drop j).take k) := by
  obtain ⟨h1, h2⟩ := cut_spec h
  by_cases h0 : k = 0
  · subst h0
    simp only [List.take_zero]
    cases xs <;> cases (o + j) <;> rfl
  · have hlen : o + j + k ≤ xs.length := by
      have h3 := h2 (j + k - 1) (by omega)
      have h4 : j + k - 1 < l.length := by omega
      rw [List.getElem?_eq_getElem h4] at h3
      have := (List.getElem?_eq_some_iff.1 h3.symm).1
      omega
    rw [cut_take xs (o + j) k hlen]
    congr 1
    apply List.ext_getElem?
    intro i
    by_cases hi : i < k
    · rw [List.getElem?_take_of_lt hi, List.getElem?_drop, List.getElem?_take_of_lt hi, List.getElem?_drop, h2 (j + i) (by omega)]
      congr 1; omega
    · rw [List.getElem?_eq_none (by simp; omega), List.getElem?_eq_none (by simp; omega)]

set_option maxHeartbeats 2000000 in
theorem s_awake (h : Nat → Option Obj) (hu : Uni h) : Ctr Tryd.prog F_rostrumlaw16_awake [] [.heap h] (fun x H => x = bv true ∧ H = [.heap h]) := by
  refine i_rostrumlaw16_awake.spec follows ?_
  refine VCall.mk [] s_New ⟨rfl, rfl, rfl⟩ ?_
  rintro _ _ ⟨rfl, rfl⟩
  refine VCall.mk [1, 2, 3, 0] (s_Take h hu vz [] 0 [] 0 0 [] BI.nil ⟨Nat.le_refl _, by simp, by simp⟩ AS1 (by decide) (by simp) (by simp)) ⟨rfl, rfl, rfl⟩ ?_
  rintro _ _ (⟨e, ys, o, cp, hno, _⟩ | ⟨l, v1, ms1, c1, ys, o, cp, zs, o2, cp2, hok, hd, hn, hb, hl, rfl, rfl, hr, hz⟩)
  · exfalso
    rcases hno with ⟨h1, _⟩ | ⟨_, h1 | h1, _⟩ | ⟨_, _, _, h1, _⟩
    · rw [good1] at h1; cases h1
    · simp [get_nil] at h1
    · rw [has_vz _ _ (by decide)] at h1; cases h1
    · simp at h1
  obtain ⟨rfl, rfl, rfl⟩ := hd.none next1
  refine VCall.mk [1, 2, 4] (s_Held vz (MP.put [] (1, 1) AS1 0) c1 ys o ([] ++ [] : List SH).length cp hb.ok (by decide)) ⟨rfl, rfl, rfl⟩ ?_
  rintro _ _ ⟨d, o3, cp3, zs3, rfl, rfl, hp, _, _⟩
  have hd1 : d.length = 1 := hp.length_eq
  refine VCall.mk [1, 2, 4, 0] (s_Take h hu vz (MP.put [] (1, 1) AS1 0) c1 ys o cp [] hb hr AS2 (by decide) (by decide) (by simp)) ⟨rfl, rfl, rfl⟩ ?_
  rintro _ _ (⟨e, ys4, o4, cp4, hno, _⟩ | ⟨l, v2, ms2, c2, ys4, o4, cp4, zs4, o5, cp5, hok4, hd4, hn4, hb4, hl4, rfl, rfl, hr4, hz4⟩)
  · exfalso
    rcases hno with ⟨h1, _⟩ | ⟨_, h1 | h1, _⟩ | ⟨_, _, _, h1, _⟩
    · rw [good2] at h1; cases h1
    · exact absurd h1 (by decide)
    · rw [has_vz _ _ (by decide)] at h1; cases h1
    · exact absurd h1 (by decide)
  obtain ⟨l1, rfl, hd5⟩ := hd4.head (next2 c1) hn4
  obtain ⟨l2, rfl, hd6⟩ := hd5.head (next3 c1) hn4
  obtain ⟨rfl, rfl, rfl⟩ := hd6.none (next4 c1)
  refine And.intro (fun _ => ?_) (fun h => absurd h (by simp))
  refine And.intro (fun _ => ?_) (fun h => absurd h (by simp))
  refine And.intro (fun _ => ?_) (fun h => absurd h (by rw [hd1]; simp))
  refine And.intro (fun _ => ?_) (fun h => absurd h (by simp))
  refine And.intro (fun _ => ?_) (fun h => absurd h (by simp))
  have hcl : ∀ x, (shcl x).length = 14 := fun _ => rfl
  have hroom : o5 + ([AS2, AS1] : List SH).length * 14 ≤ zs4.length := by have := hz4.2.1; have := Nat.mul_le_mul_right 14 hz4.1; omega
  have q0 := cut_sub (hz4.cut hcl (i := 0) (by decide)) 0 2 (by omega)
  have q1 := cut_sub (hz4.cut hcl (i := 1) (by decide)) 0 2 (by omega)
  refine And.intro ⟨by decide, by decide, hroom⟩ (Exists.intro _ (And.intro q0 ?_))
  refine And.intro (fun _ => ?_) (fun h => absurd (show true = false from h) Bool.noConfusion)
  refine And.intro ⟨by decide, by decide, hroom⟩ (Exists.intro _ (And.intro q1 ?_))
  refine And.intro (fun _ => ?_) (fun h => absurd (show true = false from h) Bool.noConfusion)
  refine VCall.mk [1, 2, 7] (s_Have (upv (upv vz 0 1) 1 1) _ c2 ys4 o4 ([] ++ [AS2, AS1] : List SH).length cp4) ⟨rfl, rfl, rfl⟩ ?_
  rintro _ _ ⟨rfl, rfl⟩
  refine And.intro (fun _ => ?_) (fun h => absurd (show true = false from h) Bool.noConfusion)
  refine VCall.mk [1, 2, 7] (s_Held (upv (upv vz 0 1) 1 1) _ c2 ys4 o4 ([] ++ [AS2, AS1] : List SH).length cp4 hb4.ok (show 0 ≤ 1000000 by omega)) ⟨rfl, rfl, rfl⟩ ?_
  rintro _ _ ⟨d2, o6, cp6, zs6, rfl, rfl, hp2, _, _⟩
  have hd2 : d2.length = 0 := hp2.length_eq
  exact VRet.mk [0] (bv (decide ((d2.length : Int) = 0))) [.heap h] ⟨rfl, rfl, rfl⟩ ⟨by rw [hd2]; rfl, rfl⟩
end Go.Proofs

namespace Go.Proofs
open Go Go.V Go.Lib
set_option maxRecDepth 100000
set_option linter.unusedVariables false

/-! ### The plain law: what was taken is held or had; what is held is not ready -/
theorem has_iff {v : Nat → Int} {r n : Int} : has v r n = true ↔ (0 ≤ r ∧ r < 7) ∧ 1 ≤ n ∧ n ≤ v r.toNat := by
  simp only [has, isRep, Bool.and_eq_true, decide_eq_true_eq]
theorem readyB_iff {s : SH} {v : Nat → Int} : readyB s v = true ↔ has v s.rep s.n = false ∧ ∀ i, i < 7 → s.seen i ≤ v i := by
  simp only [readyB, Bool.and_eq_true, Bool.not_eq_true', leB_iff]
/-- What was given out, one behind the other. -/
inductive Chain : List SH → (Nat → Int) → Prop
  | nil : Chain [] vz
  | snoc {l : List SH} {v : Nat → Int} {s : SH} : Chain l v → goodS s = true → readyB s v = true → s.n = v s.rep.toNat + 1 → Chain (l ++ [s]) (upv v s.rep.toNat s.n)
/-- One table among others: all that it was told of lies in L. -/
structure TS (L : List SH) (v : Nat → Int) (ms : SM) (out : List SH) (S : List SH) : Prop where
  held : ∀ d s, MP.get ms d = some s → s ∈ L
  took : ∀ s, s ∈ S → goodS s = true → has v s.rep s.n = true ∨ (MP.get ms (s.rep, s.n)).isSome = true
  none : nextS v ms = none
  chain : Chain out v
  from' : ∀ s, s ∈ out → s ∈ L
theorem TS.nil (L : List SH) : TS L vz [] [] [] := ⟨fun d s h => by simp [get_nil] at h, fun s h => by simp at h, rfl, .nil, fun s h => by simp at h⟩
def OneEach (L : List SH) : Prop := ∀ s, s ∈ L → ∀ t, t ∈ L → s.rep = t.rep → s.n = t.n → s = t
theorem ready_dot {s : SH} {v : Nat → Int} (hg : goodS s = true) (hr : readyB s v = true) : s.n = v s.rep.toNat + 1 := by
  obtain ⟨h1, h2, h3⟩ := goodS_iff hg
  obtain ⟨h4, h5⟩ := readyB_iff.1 hr
  have h6 := h5 s.rep.toNat (by omega)
  have h7 : ¬ s.n ≤ v s.rep.toNat := fun h => by
    rw [show has v s.rep s.n = true from has_iff.2 ⟨h1, h2.1, h⟩] at h4; cases h4
  omega
/-- What was taken and is good is not ready. -/
theorem TS.stuck {L : List SH} {v : Nat → Int} {ms : SM} {c : Nat} {out S : List SH} (h : TS L v ms out S) (hb : BI v ms c) (hL : OneEach L) {s : SH} (hs : s ∈ S) (hsL : s ∈ L) (hg : goodS s = true) : readyB s v = false := by
  cases hr : readyB s v with
  | false => rfl
  | true =>
    exfalso
    have hn := ready_dot hg hr
    obtain ⟨h4, h5⟩ := readyB_iff.1 hr
    rcases h.took s hs hg with h6 | h6
    · rw [h4] at h6; cases h6
    · obtain ⟨t, ht⟩ := Option.isSome_iff_exists.1 h6
      obtain ⟨e1, e2⟩ := hb.hk _ _ ht
      have : t = s := hL t (h.held _ _ ht) s hsL (congrArg Prod.fst e1).symm (congrArg Prod.snd e1).symm
      subst this
      have h1 := (goodS_iff hg).1
      have hkey : (t.rep, t.n) = (((t.rep.toNat : Nat) : Int), v t.rep.toNat + 1) := by rw [← hn]; congr 1; omega
      rw [hkey] at ht
      have := nextFrom_none h.none t.rep.toNat (by omega) (by omega) t ht
      rw [hr] at this; cases this
theorem Dr.keep {L : List SH} {v0 v : Nat → Int} {ms0 ms : SM} {c : Nat} {l out S : List SH} (hd : Dr v0 ms0 l v ms) (hb : BI v0 ms0 c) (hh : ∀ d s, MP.get ms0 d = some s → s ∈ L)
    (ht : ∀ s, s ∈ S → goodS s = true → has v0 s.rep s.n = true ∨ (MP.get ms0 (s.rep, s.n)).isSome = true) (hc : Chain out v0) (ho : ∀ s, s ∈ out → s ∈ L) :
    BI v ms c ∧ (∀ d s, MP.get ms d = some s → s ∈ L) ∧ (∀ s, s ∈ S → goodS s = true → has v s.rep s.n = true ∨ (MP.get ms (s.rep, s.n)).isSome = true) ∧ Chain (out ++ l) v ∧ (∀ s, s ∈ out ++ l → s ∈ L) ∧ ∀ i, v0 i ≤ v i := by
  induction hd with
  | nil => rw [List.append_nil]; exact ⟨hb, hh, ht, hc, ho, fun i => Int.le_refl _⟩
  | @snoc l v ms s hd1 hn ih =>
    obtain ⟨i1, i2, i3, i4, i5, i6⟩ := ih
    obtain ⟨q1, q2, q3, q4, q5⟩ := i1.next hn
    have hup : ∀ i, v i ≤ upv v s.rep.toNat s.n i := fun i => by
      unfold upv; split
      · rename_i e; rw [e]; omega
      · exact Int.le_refl _
    refine ⟨q5, fun d t h => ?_, fun t h1 h2 => ?_, ?_, fun t h => ?_, fun i => Int.le_trans (i6 i) (hup i)⟩
    · rw [get_del _ _ _ i1.nd] at h
      split at h
      · cases h
      · exact i2 d t h
    · rcases i3 t h1 h2 with h3 | h3
      · obtain ⟨a1, a2, a3⟩ := has_iff.1 h3
        exact .inl (has_iff.2 ⟨a1, a2, Int.le_trans a3 (hup _)⟩)
      · by_cases e : (t.rep, t.n) = (s.rep, s.n)
        · refine .inl (has_iff.2 ?_)
          have e1 : t.rep = s.rep := congrArg Prod.fst e
          have e2 : t.n = s.n := congrArg Prod.snd e
          obtain ⟨b1, b2, _⟩ := goodS_iff h2
          refine ⟨b1, b2.1, ?_⟩
          rw [e1, e2]; simp [upv]
        · refine .inr ?_
          rw [get_del _ _ _ i1.nd, if_neg e]; exact h3
    · rw [← List.append_assoc]; exact .snoc i4 q2 q3 q4
    · rw [← List.append_assoc] at h
      rcases List.mem_append.1 h with h1 | h1
      · exact i5 t h1
      · simp at h1; subst h1; exact i2 _ _ q1
/-- What a take leaves. -/
theorem TS.take {L : List SH} {v v' : Nat → Int} {ms ms' : SM} {c c' : Nat} {out S l : List SH} (h : TS L v ms out S) (hb : BI v ms c) {s : SH} (hs : s ∈ L) (hok : goodS s = true ∧ MP.get ms (s.rep, s.n) = .none ∧ has v s.rep s.n = false)
    (hd : Dr v (MP.put ms (s.rep, s.n) s c) l v' ms') (hn : nextS v' ms' = .none) : TS L v' ms' (out ++ l) (s :: S) ∧ ∀ i, v i ≤ v' i := by
  obtain ⟨k1, k2, k3⟩ := hok
  obtain ⟨i1, i2, i3, i4, i5, i6⟩ := hd.keep (L := L) (S := s :: S) (out := out) (hb.put k1 k2) (fun d t ht => by
      rw [get_put] at ht
      split at ht
      · cases ht; exact hs
      · exact h.held d t ht) (fun t ht hg => by
      rw [get_put]
      split
      · exact .inr rfl
      · rename_i e
        rcases List.mem_cons.1 ht with rfl | ht
        · exact absurd rfl e
        · exact h.took t ht hg) h.chain h.from'
  exact ⟨⟨i2, i3, hn, i4, i5⟩, i6⟩
theorem TS.no {L : List SH} {v : Nat → Int} {ms : SM} {out S : List SH} (h : TS L v ms out S) {s : SH} {e : Int} (hno : TakeNo v ms s e) (hl : ms.length < 1000) : TS L v ms out (s :: S) := by
  refine ⟨h.held, fun t ht hg => ?_, h.none, h.chain, h.from'⟩
  rcases List.mem_cons.1 ht with rfl | ht
  · rcases hno with ⟨h1, _⟩ | ⟨_, h1 | h1, _⟩ | ⟨_, _, _, h1, _⟩
    · rw [hg] at h1; cases h1
    · exact .inr h1
    · exact .inl h1
    · omega
  · exact h.took t ht hg
/-! ### Chains -/
theorem Chain.le {l : List SH} {v w : Nat → Int} (h : Chain l v) (hw : ∀ i, i < 7 → 0 ≤ w i) (hl : ∀ s, s ∈ l → has w s.rep s.n = true) : ∀ i, i < 7 → v i ≤ w i := by
  induction h with
  | nil => exact fun i hi => hw i hi
  | @snoc l v s _ _ _ _ ih =>
    intro i hi
    unfold upv
    split
    · rename_i e
      have := (has_iff.1 (hl s (by simp))).2.2
      rw [e]; exact this
    · exact ih (fun t ht => hl t (by simp [ht])) i hi
theorem Chain.had {l : List SH} {v w : Nat → Int} (h : Chain l v) (hw : ∀ i, i < 7 → 0 ≤ w i) (hno : ∀ s, s ∈ l → goodS s = true → readyB s w = false) : ∀ s, s ∈ l → has w s.rep s.n = true := by
  induction h with
  | nil => intro s hs; simp at hs
  | @snoc l v s hc hg hr hn ih =>
    have hih := ih (fun t ht => hno t (by simp [ht]))
    intro t ht
    rcases List.mem_append.1 ht with h1 | h1
    · exact hih t h1
    · simp at h1
      subst h1
      cases hh : has w t.rep t.n with
      | true => rfl
      | false =>
        have hle := hc.le hw hih
        have := hno t (by simp) hg
        rw [show readyB t w = true from readyB_iff.2 ⟨hh, fun i hi => Int.le_trans ((readyB_iff.1 hr).2 i hi) (hle i hi)⟩] at this
        cases this
theorem has_mono {v w : Nat → Int} (h : ∀ i, v i ≤ w i) {r n : Int} (hh : has v r n = true) : has w r n = true := by
  obtain ⟨a1, a2, a3⟩ := has_iff.1 hh
  exact has_iff.2 ⟨a1, a2, Int.le_trans a3 (h _)⟩
theorem mem_lacks {w : Nat → Int} {out : List SH} {s : SH} (hs : s ∈ out) (h : has w s.rep s.n = false) : s ∈ lacks w out := by
  unfold lacks; rw [List.mem_filter]; exact ⟨hs, by rw [h]; rfl⟩
/-- What one lacks, told by another, is all that it needs. -/
theorem behind_law {L : List SH} (hL : OneEach L) {vA : Nat → Int} {outA : List SH} (hA : Chain outA vA) (hAL : ∀ s, s ∈ outA → s ∈ L) {v0 v : Nat → Int} {ms : SM} {c : Nat} {out S : List SH} (h : TS L v ms out S) (hb : BI v ms c)
    (hle : ∀ i, v0 i ≤ v i) (hS : ∀ s, s ∈ lacks v0 outA → s ∈ S) : leB vA v = true ∧ lacks v outA = [] := by
  have hw : ∀ i, i < 7 → 0 ≤ v i := fun i hi => (hb.hv i hi).1
  have hall := hA.had hw fun s hs hg => by
    cases h0 : has v0 s.rep s.n with
    | true =>
      have := has_mono hle h0
      cases hr : readyB s v with
      | false => rfl
      | true => rw [(readyB_iff.1 hr).1] at this; cases this
    | false => exact h.stuck hb hL (hS s (mem_lacks hs h0)) (hAL s hs) hg
  refine ⟨leB_iff.2 (hA.le hw hall), ?_⟩
  unfold lacks
  rw [List.filter_eq_nil_iff]
  intro s hs
  rw [hall s hs]; simp
def sumV (v : Nat → Int) : Int := v 0 + (v 1 + (v 2 + (v 3 + (v 4 + (v 5 + v 6)))))
theorem sumV_upv {v : Nat → Int} {k : Nat} (hk : k < 7) : sumV (upv v k (v k + 1)) = sumV v + 1 := by
  match k, hk with
  | 0, _ => simp [sumV, upv]; omega
  | 1, _ => simp [sumV, upv]; omega
  | 2, _ => simp [sumV, upv]; omega
  | 3, _ => simp [sumV, upv]; omega
  | 4, _ => simp [sumV, upv]; omega
  | 5, _ => simp [sumV, upv]; omega
  | 6, _ => simp [sumV, upv]; omega
theorem Chain.sum {l : List SH} {v : Nat → Int} (h : Chain l v) : (l.length : Int) = sumV v := by
  induction h with
  | nil => rfl
  | @snoc l v s _ hg _ hn ih =>
    have h1 := (goodS_iff hg).1
    rw [hn, sumV_upv (by omega), List.length_append, ← ih]; simp
theorem Chain.good {l : List SH} {v : Nat → Int} (h : Chain l v) : ∀ s, s ∈ l → goodS s = true := by
  induction h with
  | nil => intro s hs; simp at hs
  | snoc _ hg _ _ ih =>
    intro s hs
    rcases List.mem_append.1 hs with h1 | h1
    · exact ih s h1
    · simp at h1; subst h1; exact hg
theorem Chain.all {l : List SH} {v : Nat → Int} (h : Chain l v) : lacks vz l = l := by
  unfold lacks
  rw [List.filter_eq_self]
  intro s hs
  rw [has_vz _ _ (goodS_iff (h.good s hs)).2.1.1]; rfl
/-- One table in a walk: after k takes. -/
structure BSt (L : List SH) (v : Nat → Int) (ms : SM) (c : Nat) (ys : List Value) (o n cp : Nat) (out S : List SH) (k : Nat) : Prop where
  bi : BI v ms c
  ts : TS L v ms out S
  row : RowG shcl 14 ys o cp out
  nn : n = out.length
  cnt : ms.length + out.length ≤ k
theorem BSt.nil (L : List SH) : BSt L vz [] 0 [] 0 0 0 [] [] 0 := ⟨BI.nil, TS.nil L, ⟨Nat.le_refl _, by simp, by simp⟩, rfl, Nat.le_refl _⟩
theorem BSt.no {L : List SH} {v : Nat → Int} {ms : SM} {c : Nat} {ys ys' : List Value} {o n cp o' cp' : Nat} {out S : List SH} {k : Nat} (h : BSt L v ms c ys o n cp out S k) {s : SH} {e : Int} (hno : TakeNo v ms s e) (hk : k < 1000) (hr : RowG shcl 14 ys' o' cp' out) :
    BSt L v ms c ys' o' out.length cp' out (s :: S) (k + 1) := ⟨h.bi, h.ts.no hno (by have := h.cnt; omega), hr, rfl, by have := h.cnt; omega⟩
theorem BSt.yes {L : List SH} {v v' : Nat → Int} {ms ms' : SM} {c c' : Nat} {ys ys' : List Value} {o n cp o' cp' : Nat} {out S l : List SH} {k : Nat} (h : BSt L v ms c ys o n cp out S k) {s : SH} (hs : s ∈ L) (hok : goodS s = true ∧ MP.get ms (s.rep, s.n) = .none ∧ has v s.rep s.n = false)
    (hd : Dr v (MP.put ms (s.rep, s.n) s c) l v' ms') (hn : nextS v' ms' = .none) (hb : BI v' ms' c') (hl : ms'.length + l.length ≤ ms.length + 1) (hr : RowG shcl 14 ys' o' cp' (out ++ l)) :
    BSt L v' ms' c' ys' o' (out ++ l).length cp' (out ++ l) (s :: S) (k + 1) ∧ ∀ i, v i ≤ v' i := by
  obtain ⟨h1, h2⟩ := TS.take (c' := c) h.ts h.bi hs hok hd hn
  exact ⟨⟨hb, h1, hr, rfl, by rw [List.length_append]; have := h.cnt; omega⟩, h2⟩
theorem BSt.up {L : List SH} {v : Nat → Int} {ms : SM} {c : Nat} {ys : List Value} {o n cp : Nat} {out S : List SH} {k k' : Nat} (h : BSt L v ms c ys o n cp out S k) (hk : k ≤ k') : BSt L v ms c ys o n cp out S k' := { h with cnt := Nat.le_trans h.cnt hk }
end Go.Proofs

namespace Go.Proofs
open Go Go.V Go.Lib
set_option maxRecDepth 100000
set_option linter.unusedVariables false

/-! ### Rows of plain elements behind a slice that came in -/
def RowsIs {α : Type} (cl : α → List Value) (k : Nat) (h : Nat → Option Obj) (v : Value) (L : List α) : Prop := ((∃ a c, v = .slice a 0 c) ∧ L = []) ∨
  ∃ (b o c : Nat) (xs : List Value) (e : TypeId) (fr : Nat × Nat), v = .slice (some ⟨b, o, none⟩) L.length c ∧ h b = some (.cells xs.toArray e fr) ∧ ∀ i (hi : i < L.length), V.cut xs (o + i * k) k = some (cl L[i])
theorem RowsIs.shape {α : Type} {cl : α → List Value} {k : Nat} {h : Nat → Option Obj} {v : Value} {L : List α} (hv : RowsIs cl k h v L) : ∃ a c, v = .slice a L.length c := by
  rcases hv with ⟨⟨a, c, rfl⟩, rfl⟩ | ⟨b, o, c, xs, e, fr, rfl, _⟩
  · exact ⟨a, c, rfl⟩
  · exact ⟨_, c, rfl⟩
theorem RowsIs.at {α : Type} {cl : α → List Value} {k : Nat} {h : Nat → Option Obj} {a : Option Addr} {n c : Nat} {L : List α} (hv : RowsIs cl k h (.slice a n c) L) {i : Nat} (hi : i < L.length) :
    ∃ (b o : Nat) (xs : List Value) (e : TypeId) (fr : Nat × Nat), a = some ⟨b, o, none⟩ ∧ h b = some (.cells xs.toArray e fr) ∧ ∀ j (hj : j < L.length), V.cut xs (o + j * k) k = some (cl L[j]) := by
  rcases hv with ⟨h1, rfl⟩ | ⟨b, o, c, xs, e, fr, h1, h2, h3⟩
  · simp at hi
  · cases h1
    exact ⟨b, o, xs, e, fr, rfl, h2, h3⟩
def longB (s : SH) : Bool := decide ((s.key.size : Int) > 100) || decide ((s.text.size : Int) > 150)
theorem s_long (s : SH) : Ctr Tryd.prog F_rostrumlaw16_long [.agg (shcells s)] [] (fun x H => x = bv (longB s) ∧ H = []) := by
  refine i_rostrumlaw16_long.spec follows ?_
  refine And.intro (fun h => ?_) (fun h => ?_)
  · refine VRet.mk [] (bv _) [] ⟨rfl, rfl, rfl⟩ ⟨?_, rfl⟩
    have h : decide ((s.key.size : Int) > 100) = false := h
    rw [longB, h]; rfl
  · refine VRet.mk [] (bv _) [] ⟨rfl, rfl, rfl⟩ ⟨?_, rfl⟩
    have h : decide ((s.key.size : Int) > 100) = true := h
    rw [longB, h]; rfl
/-- Two shadows, cell by cell. -/
def eqSH (s t : SH) : Bool :=
  decide (s.rep = t.rep) && (decide (s.n = t.n) && (decide (s.seen 0 = t.seen 0) && (decide (s.seen 1 = t.seen 1) && (decide (s.seen 2 = t.seen 2) && (decide (s.seen 3 = t.seen 3) && (decide (s.seen 4 = t.seen 4) && (decide (s.seen 5 = t.seen 5) && (decide (s.seen 6 = t.seen 6) &&
  (decide (s.kind = t.kind) && ((s.key == t.key) && ((s.text == t.text) && (decide (s.by' = t.by') && decide (s.time = t.time)))))))))))))
theorem bytes_eq {a b : ByteArray} (h : (a == b) = true) : a = b := by
  cases a with | mk x => cases b with | mk y =>
    have h : (x == y) = true := h
    rw [eq_of_beq h]
/-- Shadows that came in tell of seven replicas alone. -/
def Plain7 (s : SH) : Prop := s.seen = sev (s.seen 0) (s.seen 1) (s.seen 2) (s.seen 3) (s.seen 4) (s.seen 5) (s.seen 6)
theorem eqSH_eq {s t : SH} (hs : Plain7 s) (ht : Plain7 t) (h : eqSH s t = true) : s = t := by
  simp only [eqSH, Bool.and_eq_true, decide_eq_true_eq] at h
  obtain ⟨h0, h1, a0, a1, a2, a3, a4, a5, a6, h2, h3, h4, h5, h6⟩ := h
  obtain ⟨s0, s1, s2, s3, s4, s5, s6, s7⟩ := s
  obtain ⟨t0, t1, t2, t3, t4, t5, t6, t7⟩ := t
  simp only [Plain7] at hs ht h0 h1 a0 a1 a2 a3 a4 a5 a6 h2 h3 h4 h5 h6
  have e3 := bytes_eq h3
  have e4 := bytes_eq h4
  have e5 : s2 = t2 := by rw [hs, ht, a0, a1, a2, a3, a4, a5, a6]
  rw [h0, h1, e5, h2, e3, e4, h5, h6]
end Go.Proofs

