/- Part of the proof that the statement named in the last file holds: lemmas of the prover's own. No conditions. -/
import Derived.Test.YtbeogbniojlddaaGreatDoorDD
import Derived.Test.YtbeogbniojlddaaGreatDoorDB
import Derived.Test.YtbeogbniojlddaaGreatDoorDC
import Derived.Test.YtbeogbniojlddaaGreatDoorZA
namespace Go.Proofs
open Go Go.V Go.Lib
set_option maxRecDepth 100000
set_option linter.unusedVariables false

/-! ### The reader: texts, dots -/
def rdText (l : List Int) (lim : Int) : Option (ByteArray × List Int) := match rdN l 0 lim with
  | none => none
  | some (n, l') => if (l'.length : Int) < n then none else some (strOf (l'.take n.toNat), l'.drop n.toNat)
theorem brow_take {xs : List Value} {o c : Nat} {l : List Int} (h : Brow xs o c l) {k : Nat} (hk : k ≤ l.length) : Brow xs o c (l.take k) := by
  obtain ⟨h1, h2, h3⟩ := h
  refine ⟨by rw [List.length_take]; omega, h2, ?_⟩
  rw [List.length_take, Nat.min_eq_left hk, List.map_take, ← h3, List.take_take, Nat.min_eq_left hk]
theorem rdN_range {l : List Int} {a b n : Int} {l' : List Int} (h : rdN l a b = some (n, l')) : a ≤ n ∧ n ≤ b := by
  unfold rdN at h
  split at h
  · cases h
  · split at h
    · cases h
    · rename_i hh
      cases h
      omega
theorem s_rdBytes (l : List Int) (o c : Nat) (bad : Bool) (xs : List Value) (te : TypeId) (lim : Int) (hb : Brow xs o c l) (hby : ∀ b ∈ l, 0 ≤ b ∧ b < 256) (hl : l.length ≤ 1000000) :
    Ctr Tryz.prog F_pack_Reader_Bytes [.ptr 0 0, iv lim] [.cells (rdc 1 o l.length c bad) T_pack_Reader, .arr xs te]
    (fun x H => (∃ (n : Nat) (l' : List Int), rdN l 0 lim = some ((n : Int), l') ∧ n ≤ l'.length ∧ l' <:+ l ∧ ∃ o' c' ys o2 c2, x = .sl 2 o2 n c2 ∧ H = [.cells (rdc 1 o' (l'.drop n).length c' bad) T_pack_Reader, .arr xs te, .arr ys T_uint8] ∧ Brow xs o' c' (l'.drop n) ∧ Brow ys o2 c2 (l'.take n)) ∨
      (rdText l lim = none ∧ ∃ ys o2 c2, x = .sl 3 o2 0 c2 ∧ H = [.cells (rdc 2 0 0 0 true) T_pack_Reader, .arr xs te, .arr [] T_uint8, .arr ys T_uint8] ∧ Brow ys o2 c2 [])) := by
  refine i_pack_Reader_Bytes.spec follows ?_
  refine VCall.mk [0, 1] (s_Num l 0 lim o c bad xs te hb hby) ⟨rfl, rfl, rfl⟩ ?_
  rintro _ _ (⟨v, l', hv, rfl, o', c', rfl, hb', hsf⟩ | ⟨hv, rfl, rfl⟩)
  · have hr := rdN_range hv
    obtain ⟨n, rfl⟩ : ∃ n : Nat, v = n := ⟨v.toNat, by omega⟩
    refine And.intro (fun k => ?_) (fun k => ?_)
    · have k : ((l'.length : Nat) : Int) < (n : Int) := of_decide_eq_true k
      refine VCall.mk [0, 1] (s_fail o' l'.length c' bad xs te) ⟨rfl, rfl, rfl⟩ ?_
      rintro _ _ ⟨rfl, rfl⟩
      refine VRet.nil T_uint8 [0] [] ⟨rfl, rfl⟩ (VRet.mk [0, 1, 2, 3] (.sl 3 0 0 0) [.cells (rdc 2 0 0 0 true) T_pack_Reader, .arr xs te, .arr [] T_uint8, .arr [] T_uint8] ⟨rfl, rfl, rfl⟩ (.inr ⟨?_, [], 0, 0, rfl, rfl, brow_nil⟩))
      unfold rdText; rw [hv]; simp only; rw [if_pos k]
    · have k : ¬ ((l'.length : Nat) : Int) < (n : Int) := of_decide_eq_false k
      have hnl : n ≤ l'.length := by omega
      have hnc : n ≤ c' := Nat.le_trans hnl hb'.1
      have hlt : (l'.take n).length = n := by rw [List.length_take]; omega
      have hC := s_bytes_Clone (l'.take n) xs te o' c' (brow_take hb' hnl) (by rw [hlt]; have := hsf.length_le; omega)
      rw [hlt] at hC
      refine And.intro ⟨Int.natCast_nonneg n, Int.ofNat_le.2 hnc⟩ ?_
      refine VCall.mk [1] hC ⟨rfl, rfl, rfl⟩ ?_
      rintro _ _ ⟨o2, c2, ys, rfl, rfl, hby2⟩
      refine And.intro ⟨Int.natCast_nonneg n, Int.ofNat_le.2 hnl⟩ ?_
      refine Exists.elim (⟨_, rfl⟩ : ∃ o3, o3 = if c' = (n : Int).toNat then o' else o' + (n : Int).toNat * 1) fun o3 ho3 => ?_
      refine Exists.intro o3 (And.intro ho3 ?_)
      have hbd := brow_drop hb' hnl ho3
      refine VRet.mk [0, 1, 2] (.sl 2 o2 n c2) [.cells (rdc 1 o3 (l'.length - n) (c' - n) bad) T_pack_Reader, .arr xs te, .arr ys T_uint8] ⟨rfl, rfl, rfl⟩ (.inl ⟨n, l', hv, hnl, hsf, o3, c' - n, ys, o2, c2, rfl, ?_, hbd, hby2⟩)
      rw [List.length_drop]
  · refine And.intro (fun k => absurd k (by decide)) (fun _ => ?_)
    refine And.intro ⟨Int.le_refl _, Int.le_refl _⟩ ?_
    refine VCall.mk [2] (s_bytes_Clone [] [] T_uint8 0 0 brow_nil (by simp)) ⟨rfl, rfl, rfl⟩ ?_
    rintro _ _ ⟨o2, c2, ys, rfl, rfl, hby2⟩
    refine And.intro ⟨Int.le_refl _, Int.le_refl _⟩ ?_
    refine Exists.intro 0 (And.intro rfl ?_)
    refine VRet.mk [0, 1, 2, 3] (.sl 3 o2 0 c2) [.cells (rdc 2 0 0 0 true) T_pack_Reader, .arr xs te, .arr [] T_uint8, .arr ys T_uint8] ⟨rfl, rfl, rfl⟩ (.inr ⟨?_, ys, o2, c2, rfl, rfl, hby2⟩)
    unfold rdText; rw [hv]
theorem s_Text (l : List Int) (o c : Nat) (bad : Bool) (xs : List Value) (te : TypeId) (lim : Int) (hlim : 0 ≤ lim ∧ lim ≤ 1000) (hb : Brow xs o c l) (hby : ∀ b ∈ l, 0 ≤ b ∧ b < 256) (hl : l.length ≤ 1000000) :
    Ctr Tryz.prog F_pack_Reader_Text [.ptr 0 0, iv lim] [.cells (rdc 1 o l.length c bad) T_pack_Reader, .arr xs te]
    (fun x H => (∃ v l', rdText l lim = some (v, l') ∧ x = .raw (.string v) ∧ ∃ o' c', H = [.cells (rdc 1 o' l'.length c' bad) T_pack_Reader, .arr xs te] ∧ Brow xs o' c' l' ∧ l' <:+ l) ∨
      (rdText l lim = none ∧ x = .raw (.string es) ∧ H = [.cells (rdc 2 0 0 0 true) T_pack_Reader, .arr xs te, .arr [] T_uint8])) := by
  refine i_pack_Reader_Text.spec follows ?_
  refine VCall.mk [0, 1] (s_rdBytes l o c bad xs te lim hb hby hl) ⟨rfl, rfl, rfl⟩ ?_
  rintro _ _ (⟨n, l', hv, hnl, hsf, o', c', ys, o2, c2, rfl, rfl, hb', hy⟩ | ⟨hv, ys, o2, c2, rfl, rfl, hy⟩)
  · have hlt : (l'.take n).length = n := by rw [List.length_take]; omega
    have hbt : ∀ b ∈ l'.take n, 0 ≤ b ∧ b < 256 := fun b hb => hby b (hsf.mem (List.mem_of_mem_take hb))
    refine Exists.intro (strOf (l'.take n)) (And.intro ?_ ?_)
    · show some ((ys.drop o2).take (n * 1), n) = _
      rw [strOf_cells hbt, strOf_size, hlt]
      have h3 := hy.2.2
      rw [hlt] at h3
      rw [Nat.mul_one, h3]
    refine VRet.mk [0, 1] (.raw (.string (strOf (l'.take n)))) [.cells (rdc 1 o' (l'.drop n).length c' bad) T_pack_Reader, .arr xs te] ⟨rfl, rfl, rfl⟩ (.inl ⟨strOf (l'.take n), l'.drop n, ?_, rfl, o', c', rfl, hb', (List.drop_suffix n l').trans hsf⟩)
    unfold rdText; rw [hv]; simp only; rw [if_neg (by omega)]; rfl
  · refine Exists.intro es (And.intro ?_ ?_)
    · show some ((ys.drop o2).take (0 * 1), 0) = _
      simp; rfl
    exact VRet.mk [0, 1, 2] (.raw (.string es)) [.cells (rdc 2 0 0 0 true) T_pack_Reader, .arr xs te, .arr [] T_uint8] ⟨rfl, rfl, rfl⟩ (.inr ⟨hv, rfl, rfl⟩)
def rdDot (l : List Int) : Option ((Int × Int) × List Int) := match rdN l 0 6 with
  | none => none
  | some (r, l1) => match rdN l1 0 1099511627776 with
    | none => none
    | some (n, l2) => some ((r, n), l2)
def dotFail (l : List Int) : Int × Int := match rdN l 0 6 with
  | none => (0, 0)
  | some (r, _) => (r, 0)
theorem s_NumF (a b : Int) (te : TypeId) : Ctr Tryz.prog F_pack_Reader_Num [.ptr 0 0, iv a, iv b] [.cells (rdc 1 0 0 0 true) T_pack_Reader, .arr [] te]
    (fun x H => x = iv 0 ∧ H = [.cells (rdc 2 0 0 0 true) T_pack_Reader, .arr [] te, .arr [] T_uint8]) := by
  refine Ctr.weak (s_Num [] a b 0 0 true [] te brow_nil (by simp)) ?_
  rintro _ _ (⟨v, l', hv, _⟩ | ⟨_, rfl, rfl⟩)
  · unfold rdN at hv; rw [rd_end] at hv; cases hv
  · exact ⟨rfl, rfl⟩
theorem s_TextF (te : TypeId) (lim : Int) (hlim : 0 ≤ lim ∧ lim ≤ 1000) : Ctr Tryz.prog F_pack_Reader_Text [.ptr 0 0, iv lim] [.cells (rdc 1 0 0 0 true) T_pack_Reader, .arr [] te]
    (fun x H => x = .raw (.string es) ∧ H = [.cells (rdc 2 0 0 0 true) T_pack_Reader, .arr [] te, .arr [] T_uint8]) := by
  refine Ctr.weak (s_Text [] 0 0 true [] te lim hlim brow_nil (by simp) (by simp)) ?_
  rintro _ _ (⟨v, l', hv, _⟩ | ⟨_, rfl, rfl⟩)
  · unfold rdText rdN at hv; rw [rd_end] at hv; cases hv
  · exact ⟨rfl, rfl⟩
theorem s_dot (l : List Int) (o c : Nat) (xs : List Value) (te : TypeId) (hb : Brow xs o c l) (hby : ∀ b ∈ l, 0 ≤ b ∧ b < 256) :
    Ctr Tryz.prog F_gen_dot [.ptr 0 0] [.cells (rdc 1 o l.length c false) T_pack_Reader, .arr xs te]
    (fun x H => (∃ v l', rdDot l = some (v, l') ∧ x = .agg (dcells v.1 v.2) ∧ ∃ o' c', H = [.cells (rdc 1 o' l'.length c' false) T_pack_Reader, .arr xs te] ∧ Brow xs o' c' l' ∧ l' <:+ l) ∨
      (rdDot l = none ∧ x = .agg (dcells (dotFail l).1 (dotFail l).2) ∧ H = [.cells (rdc 2 0 0 0 true) T_pack_Reader, .arr xs te, .arr [] T_uint8])) := by
  refine i_gen_dot.spec follows ?_
  refine VCall.mk [0, 1] (s_Num l 0 6 o c false xs te hb hby) ⟨rfl, rfl, rfl⟩ ?_
  rintro _ _ (⟨v, l', hv, rfl, o', c', rfl, hb', hsf⟩ | ⟨hv, rfl, rfl⟩)
  · have hby' : ∀ b ∈ l', 0 ≤ b ∧ b < 256 := fun b hb => hby b (hsf.mem hb)
    refine VCall.mk [0, 1] (s_Num l' 0 1099511627776 o' c' false xs te hb' hby') ⟨rfl, rfl, rfl⟩ ?_
    rintro _ _ (⟨n, l2, hn, rfl, o2, c2, rfl, hb2, hsf2⟩ | ⟨hn, rfl, rfl⟩)
    · exact VRet.mk [0, 1] (.agg (dcells v n)) [.cells (rdc 1 o2 l2.length c2 false) T_pack_Reader, .arr xs te] ⟨rfl, rfl, rfl⟩ (.inl ⟨(v, n), l2, by unfold rdDot; rw [hv]; simp only; rw [hn], rfl, o2, c2, rfl, hb2, hsf2.trans hsf⟩)
    · exact VRet.mk [0, 1, 3] (.agg (dcells v 0)) [.cells (rdc 2 0 0 0 true) T_pack_Reader, .arr xs te, .arr [] T_uint8] ⟨rfl, rfl, rfl⟩ (.inr ⟨by unfold rdDot; rw [hv]; simp only; rw [hn], by unfold dotFail; rw [hv], rfl⟩)
  · refine VCall.mk [0, 3] (s_NumF 0 1099511627776 T_uint8) ⟨rfl, rfl, rfl⟩ ?_
    rintro _ _ ⟨rfl, rfl⟩
    exact VRet.mk [0, 1, 4] (.agg (dcells 0 0)) [.cells (rdc 2 0 0 0 true) T_pack_Reader, .arr xs te, .arr [] T_uint8] ⟨rfl, rfl, rfl⟩ (.inr ⟨by unfold rdDot; rw [hv], by unfold dotFail; rw [hv], rfl⟩)
theorem s_dotF (te : TypeId) : Ctr Tryz.prog F_gen_dot [.ptr 0 0] [.cells (rdc 1 0 0 0 true) T_pack_Reader, .arr [] te]
    (fun x H => x = .agg (dcells 0 0) ∧ H = [.cells (rdc 2 0 0 0 true) T_pack_Reader, .arr [] te, .arr [] T_uint8]) := by
  refine i_gen_dot.spec follows ?_
  refine VCall.mk [0, 1] (s_NumF 0 6 te) ⟨rfl, rfl, rfl⟩ ?_
  rintro _ _ ⟨rfl, rfl⟩
  refine VCall.mk [0, 3] (s_NumF 0 1099511627776 T_uint8) ⟨rfl, rfl, rfl⟩ ?_
  rintro _ _ ⟨rfl, rfl⟩
  exact VRet.mk [0, 1, 4] (.agg (dcells 0 0)) [.cells (rdc 2 0 0 0 true) T_pack_Reader, .arr [] te, .arr [] T_uint8] ⟨rfl, rfl, rfl⟩ ⟨rfl, rfl⟩
end Go.Proofs

namespace Go.Proofs
open Go Go.V Go.Lib
set_option maxRecDepth 100000
set_option linter.unusedVariables false

structure VFX where
  i : Nat
  v : Nat → Int
theorem s_vecF (te : TypeId) : Ctr Tryz.prog F_vec_Get [.ptr 0 0] [.cells (rdc 1 0 0 0 true) T_pack_Reader, .arr [] te]
    (fun x H => x = .agg (vcells fun _ => 0) ∧ H = [.cells (rdc 2 0 0 0 true) T_pack_Reader, .arr [] te, .arr [] T_uint8]) := by
  refine i_vec_Get.spec follows ?_
  refine VLoop.mk VFX (fun x => [(0, .ptr 0 0), (2, .ptr 2 0), (3, .ptr 3 0), (5, iv x.i)])
    (fun x => match x.i with
      | 0 => [.cells (rdc 1 0 0 0 true) T_pack_Reader, .arr [] te, .cells (vcells fun _ => 0) T_vec_Vec, .cells (vcells x.v) T_vec_Vec]
      | _ + 1 => [.cells (rdc 4 0 0 0 true) T_pack_Reader, .arr [] te, .cells (vcells fun _ => 0) T_vec_Vec, .cells (vcells x.v) T_vec_Vec, .arr [] T_uint8])
    (fun x => x.i ≤ 7) (fun x => 7 - x.i) ⟨0, fun _ => 0⟩ [0, 1, 2, 3] ⟨Nat.zero_le _, rfl, rfl, rfl⟩ ?_
  rintro ⟨_ | i, v⟩ hi g
  · refine And.intro (fun h => ?_) (fun h => absurd h (by simp))
    have hi7 : 0 ≤ ((0 : Nat) : Int) ∧ ((0 : Nat) : Int) < 7 := by decide
    have hw : IntKind.i64.wrap (((0 : Nat) : Int) + 1) = ((0 + 1 : Nat) : Int) := wrap64 (by omega)
    refine VCall.mk [0, 1] (s_NumF 0 1099511627776 te) ⟨rfl, rfl, rfl⟩ ?_
    rintro _ _ ⟨rfl, rfl⟩
    refine And.intro hi7 (Exists.intro _ (And.intro (vcells_put v 0 hi7 []) ?_))
    refine Exists.intro _ (And.intro hw ?_)
    exact Exists.intro ⟨0 + 1, upv v ((0 : Nat) : Int).toNat 0⟩ (Exists.intro [0, 1, 2, 3, 4] (And.intro ⟨by simp only; omega, by simp only; omega⟩ ⟨rfl, rfl, rfl⟩))
  · have hi : i + 1 ≤ 7 := hi
    refine And.intro (fun h => ?_) (fun h => ?_)
    · have h := of_decide_eq_true h
      have hi7 : 0 ≤ ((i + 1 : Nat) : Int) ∧ ((i + 1 : Nat) : Int) < 7 := ⟨by omega, h⟩
      have hw : IntKind.i64.wrap (((i + 1 : Nat) : Int) + 1) = ((i + 1 + 1 : Nat) : Int) := wrap64 (by omega)
      refine VCall.mk [0, 4] (s_NumF 0 1099511627776 T_uint8) ⟨rfl, rfl, rfl⟩ ?_
      rintro _ _ ⟨rfl, rfl⟩
      refine And.intro hi7 (Exists.intro _ (And.intro (vcells_put v 0 hi7 []) ?_))
      refine Exists.intro _ (And.intro hw ?_)
      exact Exists.intro ⟨i + 1 + 1, upv v ((i + 1 : Nat) : Int).toNat 0⟩ (Exists.intro [0, 1, 2, 3, 5] (And.intro ⟨by have := hi7.2; simp only; omega, by have := hi7.2; simp only; omega⟩ ⟨rfl, rfl, rfl⟩))
    · refine VCall.mk [0, 4] (s_Bad 0 0 0 true [] T_uint8) ⟨rfl, rfl, rfl⟩ ?_
      rintro _ _ ⟨rfl, rfl⟩
      refine And.intro (fun _ => ?_) (fun h => absurd h (by decide))
      exact VRet.mk [0, 1, 4] (.agg (vcells fun _ => 0)) [.cells (rdc 2 0 0 0 true) T_pack_Reader, .arr [] te, .arr [] T_uint8] ⟨rfl, rfl, rfl⟩ ⟨rfl, rfl⟩
theorem nT' {b : Bool} (h : (!b) = true) : b = false := by cases b <;> simp_all
theorem nF' {b : Bool} (h : (!b) = false) : b = true := by cases b <;> simp_all
def getRow (k : Int) (d : Int × Int) (v : Nat → Int) (r : Int) (nm us : ByteArray) (a b : Int × Int) (am fu : Int) : ST := ⟨k, d.1, d.2, v, r, nm, us, a.1, a.2, b.1, b.2, am, fu⟩
def getSt (l : List Int) : Option ST := (rdN l 0 7).bind fun p1 => (rdDot p1.2).bind fun p2 => (rdVs 7 p2.2).bind fun p3 => (rdN p3.2 0 1000).bind fun p4 => (rdText p4.2 80).bind fun p5 => (rdText p5.2 80).bind fun p6 => (rdDot p6.2).bind fun p7 => (rdDot p7.2).bind fun p8 => (rdN p8.2 0 1000000000).bind fun p9 => (rdN p9.2 0 1125899906842624).bind fun p10 =>
  if p10.2.length = 0 ∧ goodT (getRow p1.1 p2.1 p3.1 p4.1 p5.1 p6.1 p7.1 p8.1 p9.1 p10.1) = true then some (getRow p1.1 p2.1 p3.1 p4.1 p5.1 p6.1 p7.1 p8.1 p9.1 p10.1) else none
theorem rdText_size {l : List Int} {lim : Int} {s : ByteArray} {l' : List Int} (h : rdText l lim = some (s, l')) : (s.size : Int) ≤ lim := by
  unfold rdText at h
  split at h
  · cases h
  · rename_i n l2 hn
    split at h
    · cases h
    · cases h
      have := rdN_range hn
      rw [strOf_size, List.length_take]
      omega
def getV (o : Option ST) : SV := .tup [.agg (stcells (o.getD zeroT')), iv (bif o.isSome then 0 else 3)]
set_option maxHeartbeats 4000000 in
theorem s_gen_Get (h : Nat → Option Obj) (hu : Uni h) (l : List Int) (xs : List Value) (te : TypeId) (o c : Nat) (hb : Brow xs o c l) (hb0 : ∀ b ∈ l, 0 ≤ b ∧ b < 256) (hl0 : l.length ≤ 1000000) :
    Ctr Tryz.prog F_gen_Get [.sl 0 o l.length c] [.arr xs te, .heap h] (fun r H => r = getV (getSt l) ∧ H = [.arr xs te, .heap h]) := by
  have fin : ∀ (k : List SO), getSt l = none → VRet 2 (.tup [.agg (stcells zeroT'), iv 3]) ([.arr xs te, .heap h] ++ k) (fun r H => r = getV (getSt l) ∧ H = [.arr xs te, .heap h]) := by
    intro k e
    exact VRet.mk [0, 1] (.tup [.agg (stcells zeroT'), iv 3]) [.arr xs te, .heap h] ⟨rfl, rfl, rfl⟩ ⟨by rw [e]; rfl, rfl⟩
  refine i_gen_Get.spec follows ?_
  refine VCall.mk [0] (s_Read l xs te o c hb (Nat.le_trans hl0 (by decide))) ⟨rfl, rfl, rfl⟩ ?_
  rintro _ _ ⟨o0, c0, ys, rfl, rfl, hB0⟩
  refine VCall.mk [4, 3] (s_Num l 0 7 o0 c0 false ys T_uint8 hB0 hb0) ⟨rfl, rfl, rfl⟩ ?_
  rintro _ _ (⟨v1, l1, h1, rfl, o1, c1, rfl, hB1, hf1⟩ | ⟨h1, rfl, rfl⟩)
  rotate_left 1
  · refine VCall.mk [4, 6] (s_dotF T_uint8) ⟨rfl, rfl, rfl⟩ ?_
    rintro _ _ ⟨rfl, rfl⟩
    refine VCall.mk [4, 7] (s_vecF T_uint8) ⟨rfl, rfl, rfl⟩ ?_
    rintro _ _ ⟨rfl, rfl⟩
    refine VCall.mk [4, 8] (s_NumF 0 1000 T_uint8) ⟨rfl, rfl, rfl⟩ ?_
    rintro _ _ ⟨rfl, rfl⟩
    refine VCall.mk [4, 9] (s_TextF T_uint8 80 (by decide)) ⟨rfl, rfl, rfl⟩ ?_
    rintro _ _ ⟨rfl, rfl⟩
    refine VCall.mk [4, 10] (s_TextF T_uint8 80 (by decide)) ⟨rfl, rfl, rfl⟩ ?_
    rintro _ _ ⟨rfl, rfl⟩
    refine VCall.mk [4, 11] (s_dotF T_uint8) ⟨rfl, rfl, rfl⟩ ?_
    rintro _ _ ⟨rfl, rfl⟩
    refine VCall.mk [4, 12] (s_dotF T_uint8) ⟨rfl, rfl, rfl⟩ ?_
    rintro _ _ ⟨rfl, rfl⟩
    refine VCall.mk [4, 13] (s_NumF 0 1000000000 T_uint8) ⟨rfl, rfl, rfl⟩ ?_
    rintro _ _ ⟨rfl, rfl⟩
    refine VCall.mk [4, 14] (s_NumF 0 1125899906842624 T_uint8) ⟨rfl, rfl, rfl⟩ ?_
    rintro _ _ ⟨rfl, rfl⟩
    refine VCall.mk [4, 15] (s_End 0 0 0 true [] T_uint8) ⟨rfl, rfl, rfl⟩ ?_
    rintro _ _ ⟨rfl, rfl⟩
    refine And.intro (fun k => absurd k (by decide)) (fun _ => ?_)
    exact fin _ (by simp [getSt, h1])
  have hb1 : ∀ b ∈ l1, 0 ≤ b ∧ b < 256 := fun b hb => hb0 b (hf1.mem hb)
  have hl1 : l1.length ≤ 1000000 := Nat.le_trans hf1.length_le hl0
  refine VCall.mk [4, 3] (s_dot l1 o1 c1 ys T_uint8 hB1 hb1) ⟨rfl, rfl, rfl⟩ ?_
  rintro _ _ (⟨v2, l2, h2, rfl, o2, c2, rfl, hB2, hf2⟩ | ⟨h2, rfl, rfl⟩)
  rotate_left 1
  · refine VCall.mk [4, 6] (s_vecF T_uint8) ⟨rfl, rfl, rfl⟩ ?_
    rintro _ _ ⟨rfl, rfl⟩
    refine VCall.mk [4, 7] (s_NumF 0 1000 T_uint8) ⟨rfl, rfl, rfl⟩ ?_
    rintro _ _ ⟨rfl, rfl⟩
    refine VCall.mk [4, 8] (s_TextF T_uint8 80 (by decide)) ⟨rfl, rfl, rfl⟩ ?_
    rintro _ _ ⟨rfl, rfl⟩
    refine VCall.mk [4, 9] (s_TextF T_uint8 80 (by decide)) ⟨rfl, rfl, rfl⟩ ?_
    rintro _ _ ⟨rfl, rfl⟩
    refine VCall.mk [4, 10] (s_dotF T_uint8) ⟨rfl, rfl, rfl⟩ ?_
    rintro _ _ ⟨rfl, rfl⟩
    refine VCall.mk [4, 11] (s_dotF T_uint8) ⟨rfl, rfl, rfl⟩ ?_
    rintro _ _ ⟨rfl, rfl⟩
    refine VCall.mk [4, 12] (s_NumF 0 1000000000 T_uint8) ⟨rfl, rfl, rfl⟩ ?_
    rintro _ _ ⟨rfl, rfl⟩
    refine VCall.mk [4, 13] (s_NumF 0 1125899906842624 T_uint8) ⟨rfl, rfl, rfl⟩ ?_
    rintro _ _ ⟨rfl, rfl⟩
    refine VCall.mk [4, 14] (s_End 0 0 0 true [] T_uint8) ⟨rfl, rfl, rfl⟩ ?_
    rintro _ _ ⟨rfl, rfl⟩
    refine And.intro (fun k => absurd k (by decide)) (fun _ => ?_)
    exact fin _ (by simp [getSt, h1, h2])
  have hb2 : ∀ b ∈ l2, 0 ≤ b ∧ b < 256 := fun b hb => hb1 b (hf2.mem hb)
  have hl2 : l2.length ≤ 1000000 := Nat.le_trans hf2.length_le hl1
  refine VCall.mk [4, 3] (s_vec_Get l2 o2 c2 ys T_uint8 hB2 hb2) ⟨rfl, rfl, rfl⟩ ?_
  rintro _ _ (⟨v3, l3, h3, rfl, o3, c3, rfl, hB3, hf3⟩ | ⟨h3, rfl, rfl⟩)
  rotate_left 1
  · refine VCall.mk [4, 6] (s_NumF 0 1000 T_uint8) ⟨rfl, rfl, rfl⟩ ?_
    rintro _ _ ⟨rfl, rfl⟩
    refine VCall.mk [4, 7] (s_TextF T_uint8 80 (by decide)) ⟨rfl, rfl, rfl⟩ ?_
    rintro _ _ ⟨rfl, rfl⟩
    refine VCall.mk [4, 8] (s_TextF T_uint8 80 (by decide)) ⟨rfl, rfl, rfl⟩ ?_
    rintro _ _ ⟨rfl, rfl⟩
    refine VCall.mk [4, 9] (s_dotF T_uint8) ⟨rfl, rfl, rfl⟩ ?_
    rintro _ _ ⟨rfl, rfl⟩
    refine VCall.mk [4, 10] (s_dotF T_uint8) ⟨rfl, rfl, rfl⟩ ?_
    rintro _ _ ⟨rfl, rfl⟩
    refine VCall.mk [4, 11] (s_NumF 0 1000000000 T_uint8) ⟨rfl, rfl, rfl⟩ ?_
    rintro _ _ ⟨rfl, rfl⟩
    refine VCall.mk [4, 12] (s_NumF 0 1125899906842624 T_uint8) ⟨rfl, rfl, rfl⟩ ?_
    rintro _ _ ⟨rfl, rfl⟩
    refine VCall.mk [4, 13] (s_End 0 0 0 true [] T_uint8) ⟨rfl, rfl, rfl⟩ ?_
    rintro _ _ ⟨rfl, rfl⟩
    refine And.intro (fun k => absurd k (by decide)) (fun _ => ?_)
    exact fin _ (by simp [getSt, h1, h2, h3])
  have hb3 : ∀ b ∈ l3, 0 ≤ b ∧ b < 256 := fun b hb => hb2 b (hf3.mem hb)
  have hl3 : l3.length ≤ 1000000 := Nat.le_trans hf3.length_le hl2
  refine VCall.mk [4, 3] (s_Num l3 0 1000 o3 c3 false ys T_uint8 hB3 hb3) ⟨rfl, rfl, rfl⟩ ?_
  rintro _ _ (⟨v4, l4, h4, rfl, o4, c4, rfl, hB4, hf4⟩ | ⟨h4, rfl, rfl⟩)
  rotate_left 1
  · refine VCall.mk [4, 6] (s_TextF T_uint8 80 (by decide)) ⟨rfl, rfl, rfl⟩ ?_
    rintro _ _ ⟨rfl, rfl⟩
    refine VCall.mk [4, 7] (s_TextF T_uint8 80 (by decide)) ⟨rfl, rfl, rfl⟩ ?_
    rintro _ _ ⟨rfl, rfl⟩
    refine VCall.mk [4, 8] (s_dotF T_uint8) ⟨rfl, rfl, rfl⟩ ?_
    rintro _ _ ⟨rfl, rfl⟩
    refine VCall.mk [4, 9] (s_dotF T_uint8) ⟨rfl, rfl, rfl⟩ ?_
    rintro _ _ ⟨rfl, rfl⟩
    refine VCall.mk [4, 10] (s_NumF 0 1000000000 T_uint8) ⟨rfl, rfl, rfl⟩ ?_
    rintro _ _ ⟨rfl, rfl⟩
    refine VCall.mk [4, 11] (s_NumF 0 1125899906842624 T_uint8) ⟨rfl, rfl, rfl⟩ ?_
    rintro _ _ ⟨rfl, rfl⟩
    refine VCall.mk [4, 12] (s_End 0 0 0 true [] T_uint8) ⟨rfl, rfl, rfl⟩ ?_
    rintro _ _ ⟨rfl, rfl⟩
    refine And.intro (fun k => absurd k (by decide)) (fun _ => ?_)
    exact fin _ (by simp [getSt, h1, h2, h3, h4])
  have hb4 : ∀ b ∈ l4, 0 ≤ b ∧ b < 256 := fun b hb => hb3 b (hf4.mem hb)
  have hl4 : l4.length ≤ 1000000 := Nat.le_trans hf4.length_le hl3
  refine VCall.mk [4, 3] (s_Text l4 o4 c4 false ys T_uint8 80 (by decide) hB4 hb4 hl4) ⟨rfl, rfl, rfl⟩ ?_
  rintro _ _ (⟨v5, l5, h5, rfl, o5, c5, rfl, hB5, hf5⟩ | ⟨h5, rfl, rfl⟩)
  rotate_left 1
  · refine VCall.mk [4, 6] (s_TextF T_uint8 80 (by decide)) ⟨rfl, rfl, rfl⟩ ?_
    rintro _ _ ⟨rfl, rfl⟩
    refine VCall.mk [4, 7] (s_dotF T_uint8) ⟨rfl, rfl, rfl⟩ ?_
    rintro _ _ ⟨rfl, rfl⟩
    refine VCall.mk [4, 8] (s_dotF T_uint8) ⟨rfl, rfl, rfl⟩ ?_
    rintro _ _ ⟨rfl, rfl⟩
    refine VCall.mk [4, 9] (s_NumF 0 1000000000 T_uint8) ⟨rfl, rfl, rfl⟩ ?_
    rintro _ _ ⟨rfl, rfl⟩
    refine VCall.mk [4, 10] (s_NumF 0 1125899906842624 T_uint8) ⟨rfl, rfl, rfl⟩ ?_
    rintro _ _ ⟨rfl, rfl⟩
    refine VCall.mk [4, 11] (s_End 0 0 0 true [] T_uint8) ⟨rfl, rfl, rfl⟩ ?_
    rintro _ _ ⟨rfl, rfl⟩
    refine And.intro (fun k => absurd k (by decide)) (fun _ => ?_)
    exact fin _ (by simp [getSt, h1, h2, h3, h4, h5])
  have hb5 : ∀ b ∈ l5, 0 ≤ b ∧ b < 256 := fun b hb => hb4 b (hf5.mem hb)
  have hl5 : l5.length ≤ 1000000 := Nat.le_trans hf5.length_le hl4
  refine VCall.mk [4, 3] (s_Text l5 o5 c5 false ys T_uint8 80 (by decide) hB5 hb5 hl5) ⟨rfl, rfl, rfl⟩ ?_
  rintro _ _ (⟨v6, l6, h6, rfl, o6, c6, rfl, hB6, hf6⟩ | ⟨h6, rfl, rfl⟩)
  rotate_left 1
  · refine VCall.mk [4, 6] (s_dotF T_uint8) ⟨rfl, rfl, rfl⟩ ?_
    rintro _ _ ⟨rfl, rfl⟩
    refine VCall.mk [4, 7] (s_dotF T_uint8) ⟨rfl, rfl, rfl⟩ ?_
    rintro _ _ ⟨rfl, rfl⟩
    refine VCall.mk [4, 8] (s_NumF 0 1000000000 T_uint8) ⟨rfl, rfl, rfl⟩ ?_
    rintro _ _ ⟨rfl, rfl⟩
    refine VCall.mk [4, 9] (s_NumF 0 1125899906842624 T_uint8) ⟨rfl, rfl, rfl⟩ ?_
    rintro _ _ ⟨rfl, rfl⟩
    refine VCall.mk [4, 10] (s_End 0 0 0 true [] T_uint8) ⟨rfl, rfl, rfl⟩ ?_
    rintro _ _ ⟨rfl, rfl⟩
    refine And.intro (fun k => absurd k (by decide)) (fun _ => ?_)
    exact fin _ (by simp [getSt, h1, h2, h3, h4, h5, h6])
  have hb6 : ∀ b ∈ l6, 0 ≤ b ∧ b < 256 := fun b hb => hb5 b (hf6.mem hb)
  have hl6 : l6.length ≤ 1000000 := Nat.le_trans hf6.length_le hl5
  refine VCall.mk [4, 3] (s_dot l6 o6 c6 ys T_uint8 hB6 hb6) ⟨rfl, rfl, rfl⟩ ?_
  rintro _ _ (⟨v7, l7, h7, rfl, o7, c7, rfl, hB7, hf7⟩ | ⟨h7, rfl, rfl⟩)
  rotate_left 1
  · refine VCall.mk [4, 6] (s_dotF T_uint8) ⟨rfl, rfl, rfl⟩ ?_
    rintro _ _ ⟨rfl, rfl⟩
    refine VCall.mk [4, 7] (s_NumF 0 1000000000 T_uint8) ⟨rfl, rfl, rfl⟩ ?_
    rintro _ _ ⟨rfl, rfl⟩
    refine VCall.mk [4, 8] (s_NumF 0 1125899906842624 T_uint8) ⟨rfl, rfl, rfl⟩ ?_
    rintro _ _ ⟨rfl, rfl⟩
    refine VCall.mk [4, 9] (s_End 0 0 0 true [] T_uint8) ⟨rfl, rfl, rfl⟩ ?_
    rintro _ _ ⟨rfl, rfl⟩
    refine And.intro (fun k => absurd k (by decide)) (fun _ => ?_)
    exact fin _ (by simp [getSt, h1, h2, h3, h4, h5, h6, h7])
  have hb7 : ∀ b ∈ l7, 0 ≤ b ∧ b < 256 := fun b hb => hb6 b (hf7.mem hb)
  have hl7 : l7.length ≤ 1000000 := Nat.le_trans hf7.length_le hl6
  refine VCall.mk [4, 3] (s_dot l7 o7 c7 ys T_uint8 hB7 hb7) ⟨rfl, rfl, rfl⟩ ?_
  rintro _ _ (⟨v8, l8, h8, rfl, o8, c8, rfl, hB8, hf8⟩ | ⟨h8, rfl, rfl⟩)
  rotate_left 1
  · refine VCall.mk [4, 6] (s_NumF 0 1000000000 T_uint8) ⟨rfl, rfl, rfl⟩ ?_
    rintro _ _ ⟨rfl, rfl⟩
    refine VCall.mk [4, 7] (s_NumF 0 1125899906842624 T_uint8) ⟨rfl, rfl, rfl⟩ ?_
    rintro _ _ ⟨rfl, rfl⟩
    refine VCall.mk [4, 8] (s_End 0 0 0 true [] T_uint8) ⟨rfl, rfl, rfl⟩ ?_
    rintro _ _ ⟨rfl, rfl⟩
    refine And.intro (fun k => absurd k (by decide)) (fun _ => ?_)
    exact fin _ (by simp [getSt, h1, h2, h3, h4, h5, h6, h7, h8])
  have hb8 : ∀ b ∈ l8, 0 ≤ b ∧ b < 256 := fun b hb => hb7 b (hf8.mem hb)
  have hl8 : l8.length ≤ 1000000 := Nat.le_trans hf8.length_le hl7
  refine VCall.mk [4, 3] (s_Num l8 0 1000000000 o8 c8 false ys T_uint8 hB8 hb8) ⟨rfl, rfl, rfl⟩ ?_
  rintro _ _ (⟨v9, l9, h9, rfl, o9, c9, rfl, hB9, hf9⟩ | ⟨h9, rfl, rfl⟩)
  rotate_left 1
  · refine VCall.mk [4, 6] (s_NumF 0 1125899906842624 T_uint8) ⟨rfl, rfl, rfl⟩ ?_
    rintro _ _ ⟨rfl, rfl⟩
    refine VCall.mk [4, 7] (s_End 0 0 0 true [] T_uint8) ⟨rfl, rfl, rfl⟩ ?_
    rintro _ _ ⟨rfl, rfl⟩
    refine And.intro (fun k => absurd k (by decide)) (fun _ => ?_)
    exact fin _ (by simp [getSt, h1, h2, h3, h4, h5, h6, h7, h8, h9])
  have hb9 : ∀ b ∈ l9, 0 ≤ b ∧ b < 256 := fun b hb => hb8 b (hf9.mem hb)
  have hl9 : l9.length ≤ 1000000 := Nat.le_trans hf9.length_le hl8
  refine VCall.mk [4, 3] (s_Num l9 0 1125899906842624 o9 c9 false ys T_uint8 hB9 hb9) ⟨rfl, rfl, rfl⟩ ?_
  rintro _ _ (⟨v10, l10, h10, rfl, o10, c10, rfl, hB10, hf10⟩ | ⟨h10, rfl, rfl⟩)
  rotate_left 1
  · refine VCall.mk [4, 6] (s_End 0 0 0 true [] T_uint8) ⟨rfl, rfl, rfl⟩ ?_
    rintro _ _ ⟨rfl, rfl⟩
    refine And.intro (fun k => absurd k (by decide)) (fun _ => ?_)
    exact fin _ (by simp [getSt, h1, h2, h3, h4, h5, h6, h7, h8, h9, h10])
  have hb10 : ∀ b ∈ l10, 0 ≤ b ∧ b < 256 := fun b hb => hb9 b (hf10.mem hb)
  have hl10 : l10.length ≤ 1000000 := Nat.le_trans hf10.length_le hl9
  refine VCall.mk [4, 3] (s_End o10 l10.length c10 false ys T_uint8) ⟨rfl, rfl, rfl⟩ ?_
  rintro _ _ ⟨rfl, rfl⟩
  have hall : getSt l = if l10.length = 0 ∧ goodT (getRow v1 v2 v3 v4 v5 v6 v7 v8 v9 v10) = true then some (getRow v1 v2 v3 v4 v5 v6 v7 v8 v9 v10) else none := by
    simp only [getSt, h1, h2, h3, h4, h5, h6, h7, h8, h9, h10, Option.bind_some]
  refine And.intro (fun k => ?_) (fun k => ?_)
  rotate_left 1
  · exact fin _ (by rw [hall, if_neg]; rintro ⟨e, _⟩; rw [e] at k; exact absurd k (by decide))
  have e : l10.length = 0 := by simpa using k
  have s5 := rdText_size h5
  have s6 := rdText_size h6
  refine VCall.mk [1] (s_Good h hu (getRow v1 v2 v3 v4 v5 v6 v7 v8 v9 v10) (show v5.size ≤ _ by omega) (show v6.size ≤ _ by omega)) ⟨rfl, rfl, rfl⟩ ?_
  rintro _ _ ⟨rfl, rfl⟩
  refine And.intro (fun k2 => ?_) (fun k2 => ?_)
  · have k2 := nT' k2
    exact fin _ (by rw [hall, if_neg]; rintro ⟨_, e⟩; rw [k2] at e; cases e)
  · have k2 := nF' k2
    rw [if_pos ⟨e, k2⟩] at hall
    exact VRet.mk [0, 1] (.tup [.agg (stcells (getRow v1 v2 v3 v4 v5 v6 v7 v8 v9 v10)), iv 0]) [.arr xs te, .heap h] ⟨rfl, rfl, rfl⟩ ⟨by rw [hall]; rfl, rfl⟩
end Go.Proofs

namespace Go.Proofs
open Go Go.V Go.Lib
set_option maxRecDepth 100000
set_option linter.unusedVariables false

def genP (s : ST) : List Int := bif goodT s then putB s else []
theorem s_gen_Put (h : Nat → Option Obj) (hu : Uni h) (s : ST) (z1 : s.name.size ≤ 1000) (z2 : s.user.size ≤ 1000) :
    Ctr Tryz.prog F_gen_Put [.agg (stcells s)] [.heap h] (fun x H => ∃ o' c' ys, x = .sl 1 o' (genP s).length c' ∧ H = [.heap h, .arr ys T_uint8] ∧ Brow ys o' c' (genP s)) := by
  refine i_gen_Put.spec follows ?_
  refine VCall.mk [0] (s_Good h hu s (Nat.le_trans z1 (by decide)) (Nat.le_trans z2 (by decide))) ⟨rfl, rfl, rfl⟩ ?_
  rintro _ _ ⟨rfl, rfl⟩
  refine And.intro (fun k => ?_) (fun k => ?_)
  · have k := nT' k
    refine VRet.nil T_uint8 [0] [] ⟨rfl, rfl⟩ (VRet.mk [0, 2] (.sl 1 0 0 0) [.heap h, .arr [] T_uint8] ⟨rfl, rfl, rfl⟩ ⟨0, 0, [], ?_, rfl, ?_⟩)
    · rw [genP, k]; rfl
    · rw [genP, k]; exact brow_nil
  have k := nF' k
  have hs := good_sm k z1 z2
  have hgp : genP s = putB s := by rw [genP, k]; rfl
  rw [hgp]
  have h1 := zB_len (v := s.kind) (by have := hs.k; omega)
  have h2 := zB_len (v := s.rep) (by have := hs.r; omega)
  have h3 := zB_len (v := s.n) (by have := hs.n; omega)
  have h4 := vecB_len hs.v 7 (by omega)
  have h5 := zB_len (v := s.reds) (by have := hs.reds; omega)
  have h6 := textB_len hs.nm
  have h7 := textB_len hs.us
  refine VCall.nil T_uint8 [0] [] ⟨rfl, rfl⟩ (VCall.mk [2] (s_pack_Num [] [] T_uint8 0 0 brow_nil (by simp) s.kind (by have := hs.k; omega)) ⟨rfl, rfl, rfl⟩ ?_)
  rintro _ _ ⟨o1, c1, y1, rfl, rfl, b1⟩
  refine And.intro rfl ?_
  refine And.intro rfl ?_
  refine VCall.mk [3] (s_pack_Num ([] ++ zB s.kind) y1 T_uint8 o1 c1 b1 (by simp only [List.length_append, List.length_nil]; omega) s.rep (by have := hs.r; omega)) ⟨rfl, rfl, rfl⟩ ?_
  rintro _ _ ⟨o2, c2, y2, rfl, rfl, b2⟩
  refine And.intro rfl ?_
  refine VCall.mk [4] (s_pack_Num (([] ++ zB s.kind) ++ zB s.rep) y2 T_uint8 o2 c2 b2 (by simp only [List.length_append, List.length_nil]; omega) s.n (by have := hs.n; omega)) ⟨rfl, rfl, rfl⟩ ?_
  rintro _ _ ⟨o3, c3, y3, rfl, rfl, b3⟩
  refine VCall.mk [5] (s_vec_Put ((([] ++ zB s.kind) ++ zB s.rep) ++ zB s.n) y3 T_uint8 o3 c3 b3 (by simp only [List.length_append, List.length_nil]; omega) s.seen hs.v) ⟨rfl, rfl, rfl⟩ ?_
  rintro _ _ ⟨o4, c4, y4, rfl, rfl, b4⟩
  refine And.intro rfl ?_
  refine VCall.mk [6] (s_pack_Num (((([] ++ zB s.kind) ++ zB s.rep) ++ zB s.n) ++ vecB s.seen 7) y4 T_uint8 o4 c4 b4 (by simp only [List.length_append, List.length_nil]; omega) s.reds (by have := hs.reds; omega)) ⟨rfl, rfl, rfl⟩ ?_
  rintro _ _ ⟨o5, c5, y5, rfl, rfl, b5⟩
  refine VCall.mk [7] (s_pack_Text ((((([] ++ zB s.kind) ++ zB s.rep) ++ zB s.n) ++ vecB s.seen 7) ++ zB s.reds) s.name y5 T_uint8 o5 c5 b5 (by simp only [List.length_append, List.length_nil]; omega) hs.nm) ⟨rfl, rfl, rfl⟩ ?_
  rintro _ _ ⟨o6, c6, y6, rfl, rfl, b6⟩
  refine And.intro rfl ?_
  refine VCall.mk [8] (s_pack_Text (((((([] ++ zB s.kind) ++ zB s.rep) ++ zB s.n) ++ vecB s.seen 7) ++ zB s.reds) ++ textB s.name) s.user y6 T_uint8 o6 c6 b6 (by simp only [List.length_append, List.length_nil]; omega) hs.us) ⟨rfl, rfl, rfl⟩ ?_
  rintro _ _ ⟨o7, c7, y7, rfl, rfl, b7⟩
  have hL0 : (((((((([] ++ zB s.kind) ++ zB s.rep) ++ zB s.n) ++ vecB s.seen 7) ++ zB s.reds) ++ textB s.name) ++ textB s.user)).length ≤ 0 + 2130 := by simp only [List.length_append, List.length_nil]; omega
  have hcur : ∃ L0, L0 = ((((((([] ++ zB s.kind) ++ zB s.rep) ++ zB s.n) ++ vecB s.seen 7) ++ zB s.reds) ++ textB s.name) ++ textB s.user) := ⟨_, rfl⟩
  refine VLoop.mk BX (fun y => [(1, .ptr 1 0), (3, .sl 3 y.o y.l.length y.c), (38, .sl 2 0 2 2), (39, iv 2), (40, iv (y.u : Nat))])
    (fun y => [.heap h, .cells (stcells s) T_auct_Step, .arr [.int .i64 s.ar, .int .i64 s.an, .int .i64 s.br, .int .i64 s.bn] T_api_Dot, .arr y.xs T_uint8])
    (fun y => Brow y.xs y.o y.c y.l ∧ y.u ≤ 2 ∧ y.l = ((((((([] ++ zB s.kind) ++ zB s.rep) ++ zB s.n) ++ vecB s.seen 7) ++ zB s.reds) ++ textB s.name) ++ textB s.user) ++ ptsB s y.u) (fun y => 2 - y.u) ⟨y7, o7, c7, ((((((([] ++ zB s.kind) ++ zB s.rep) ++ zB s.n) ++ vecB s.seen 7) ++ zB s.reds) ++ textB s.name) ++ textB s.user), 0⟩ [0, 1, 10, 9]
    ⟨⟨b7, Nat.zero_le _, by simp [ptsB]⟩, rfl, rfl, rfl⟩ ?_
  have hp1 := zB_len (v := s.ar) (by have := hs.ar; omega)
  have hp2 := zB_len (v := s.an) (by have := hs.an; omega)
  have hp3 := zB_len (v := s.br) (by have := hs.br; omega)
  have hp4 := zB_len (v := s.bn) (by have := hs.bn; omega)
  clear b1 b2 b3 b4 b5 b6 b7
  rintro ⟨ys, o8, c8, l8, i⟩ ⟨hb8, hi, hl8⟩ g
  simp only at hb8 hi hl8
  have hll := congrArg List.length hl8
  match i, hi with
  | 0, _ =>
    have hll : l8.length ≤ 0 + 2130 := by rw [hll, List.length_append]; simp only [ptsB, List.length_nil, List.length_append]; omega
    refine And.intro (fun _ => ?_) (fun h => absurd h (show ¬ decide (((0 : Nat) : Int) < 2) = false by decide))
    refine And.intro ⟨show (0 : Int) ≤ ((0 : Nat) : Int) by decide, show ((0 : Nat) : Int) < ((2 : Nat) : Int) by decide, Nat.le_refl 4⟩ (Exists.intro _ (And.intro rfl ?_))
    refine VCall.mk [3] (s_pack_Num l8 ys T_uint8 o8 c8 hb8 (by omega) s.ar (by have := hs.ar; omega)) ⟨rfl, rfl, rfl⟩ ?_
    rintro _ _ ⟨o9, c9, y9, rfl, rfl, b9⟩
    refine And.intro rfl ?_
    refine VCall.mk [5] (s_pack_Num (l8 ++ zB s.ar) y9 T_uint8 o9 c9 b9 (by rw [List.length_append]; omega) s.an (by have := hs.an; omega)) ⟨rfl, rfl, rfl⟩ ?_
    rintro _ _ ⟨o10, c10, y10, rfl, rfl, b10⟩
    refine Exists.intro _ (And.intro (show IntKind.i64.wrap (((0 : Nat) : Int) + 1) = ((1 : Nat) : Int) by decide) ?_)
    refine Exists.intro ⟨y10, o10, c10, l8 ++ zB s.ar ++ zB s.an, 1⟩ (Exists.intro [0, 1, 2, 6] (And.intro ⟨⟨b10, show 1 ≤ 2 by decide, ?_⟩, show 2 - 1 < 2 - 0 by decide⟩ ⟨rfl, rfl, rfl⟩))
    simp only
    rw [hl8]
    simp only [ptsB, List.append_assoc, List.append_nil, List.nil_append]
  | 1, _ =>
    have hll : l8.length ≤ 0 + 2150 := by rw [hll, List.length_append]; simp only [ptsB, List.length_nil, List.length_append]; omega
    refine And.intro (fun _ => ?_) (fun h => absurd h (show ¬ decide (((1 : Nat) : Int) < 2) = false by decide))
    refine And.intro ⟨show (0 : Int) ≤ ((1 : Nat) : Int) by decide, show ((1 : Nat) : Int) < ((2 : Nat) : Int) by decide, Nat.le_refl 4⟩ (Exists.intro _ (And.intro rfl ?_))
    refine VCall.mk [3] (s_pack_Num l8 ys T_uint8 o8 c8 hb8 (by omega) s.br (by have := hs.br; omega)) ⟨rfl, rfl, rfl⟩ ?_
    rintro _ _ ⟨o9, c9, y9, rfl, rfl, b9⟩
    refine And.intro rfl ?_
    refine VCall.mk [5] (s_pack_Num (l8 ++ zB s.br) y9 T_uint8 o9 c9 b9 (by rw [List.length_append]; omega) s.bn (by have := hs.bn; omega)) ⟨rfl, rfl, rfl⟩ ?_
    rintro _ _ ⟨o10, c10, y10, rfl, rfl, b10⟩
    refine Exists.intro _ (And.intro (show IntKind.i64.wrap (((1 : Nat) : Int) + 1) = ((2 : Nat) : Int) by decide) ?_)
    refine Exists.intro ⟨y10, o10, c10, l8 ++ zB s.br ++ zB s.bn, 2⟩ (Exists.intro [0, 1, 2, 6] (And.intro ⟨⟨b10, show 2 ≤ 2 by decide, ?_⟩, show 2 - 2 < 2 - 1 by decide⟩ ⟨rfl, rfl, rfl⟩))
    simp only
    rw [hl8]
    simp only [ptsB, List.append_assoc, List.append_nil, List.nil_append]
  | 2, _ =>
    have hll : l8.length ≤ 0 + 2170 := by rw [hll, List.length_append]; simp only [ptsB, List.length_append, List.length_nil]; omega
    have hp5 := zB_len (v := s.amount) (by have := hs.am; omega)
    refine And.intro (fun h => absurd h (show ¬ decide (((2 : Nat) : Int) < 2) = true by decide)) (fun _ => ?_)
    refine VCall.mk [3] (s_pack_Num l8 ys T_uint8 o8 c8 hb8 (by omega) s.amount (by have := hs.am; omega)) ⟨rfl, rfl, rfl⟩ ?_
    rintro _ _ ⟨o9, c9, y9, rfl, rfl, b9⟩
    refine And.intro rfl ?_
    refine VCall.mk [4] (s_pack_Num (l8 ++ zB s.amount) y9 T_uint8 o9 c9 b9 (by rw [List.length_append]; omega) s.funds (by have := hs.fu; omega)) ⟨rfl, rfl, rfl⟩ ?_
    rintro _ _ ⟨o10, c10, y10, rfl, rfl, b10⟩
    have e : l8 ++ zB s.amount ++ zB s.funds = putB s := by
      rw [hl8]
      simp only [ptsB, putB, List.append_assoc, List.nil_append]
    have b11 : Brow y10 o10 c10 (l8 ++ zB s.amount ++ zB s.funds) := b10
    rw [e] at b11
    refine VRet.mk [0, 5] (.sl 1 o10 (l8 ++ zB s.amount ++ zB s.funds).length c10) [.heap h, .arr y10 T_uint8] ⟨rfl, rfl, rfl⟩ ⟨o10, c10, y10, by rw [e], rfl, b11⟩
end Go.Proofs

namespace Go.Proofs
open Go Go.V Go.Lib
set_option maxRecDepth 100000
set_option linter.unusedVariables false

/-! ### Is it in the row? -/
theorem wrapM {i n : Nat} (h : i < n) (hn : n ≤ 1000000) : IntKind.i64.wrap ((i : Int) + 1) = ((i + 1 : Nat) : Int) := wrap64 (by omega)
theorem subM {i n : Nat} (h : i < n) : n - (i + 1) < n - i := by omega
theorem s_IndexDot (l : List (Int × Int)) (hl : l.length ≤ 1000000) (xs : List Value) (o c : Nat) (hr : RowG dcl 2 xs o c l) (d : Int × Int) :
    Ctr Tryz.prog F_slices_Index_sl_api_Dot_api_Dot [.sl 0 o l.length c, .agg (dcells d.1 d.2)] [.arr xs T_api_Dot] (fun r H => ((∃ i : Nat, r = iv i ∧ d ∈ l) ∨ (r = iv (-1) ∧ d ∉ l)) ∧ H = [.arr xs T_api_Dot]) := by
  refine i_slices_Index_sl_api_Dot_api_Dot.spec follows ?_
  refine VLoop.mk Nat (fun i => [(0, .sl 0 o l.length c), (3, .ptr 1 0), (7, iv l.length), (8, iv i)]) (fun _ => [.arr xs T_api_Dot, .cells (dcells d.1 d.2) T_api_Dot]) (fun i => i ≤ l.length ∧ ∀ k (hk : k < l.length), k < i → l[k] ≠ d) (fun i => l.length - i) 0 [0, 1]
    ⟨⟨Nat.zero_le _, fun k _ hk => absurd hk (Nat.not_lt_zero k)⟩, rfl, rfl, rfl⟩ ?_
  rintro i ⟨hi, hno⟩ g
  refine And.intro (fun t1 => ?_) (fun t1 => ?_)
  · have t1 : (i : Int) < (l.length : Nat) := of_decide_eq_true t1
    have hil : i < l.length := Int.ofNat_lt.1 t1
    have hwi := wrapM hil hl
    have hx := hr.cut (fun _ => rfl) hil
    refine And.intro ⟨Int.natCast_nonneg i, t1, RowG.room hr⟩ (Exists.intro _ (And.intro (by rw [Int.toNat_natCast]; exact hx) ?_))
    refine And.intro (fun t2 => ?_) (fun t2 => ?_)
    · have t2 : (decide (d.1 = l[i].1) && decide (d.2 = l[i].2)) = true := t2
      simp only [Bool.and_eq_true, decide_eq_true_eq] at t2
      have e : d = l[i] := Prod.ext t2.1 t2.2
      exact VRet.mk [0] (iv i) [.arr xs T_api_Dot] ⟨rfl, rfl, rfl⟩ ⟨.inl ⟨i, rfl, e ▸ List.getElem_mem hil⟩, rfl⟩
    · have t2 : (decide (d.1 = l[i].1) && decide (d.2 = l[i].2)) = false := t2
      refine Exists.intro _ (And.intro hwi ?_)
      refine Exists.intro (i + 1) (Exists.intro [0, 1] (And.intro ⟨⟨hil, fun k hkl hk1 => ?_⟩, subM hil⟩ ⟨rfl, rfl, rfl⟩))
      by_cases e : k = i
      · subst e; intro h; rw [h] at t2; simp at t2
      · exact hno k hkl (by omega)
  · have hil : i = l.length := Nat.le_antisymm hi (Int.ofNat_le.1 (Int.not_lt.1 (of_decide_eq_false t1)))
    refine VRet.mk [0] (iv (-1)) [.arr xs T_api_Dot] ⟨rfl, rfl, rfl⟩ ⟨.inr ⟨rfl, fun h => ?_⟩, rfl⟩
    obtain ⟨k, hkl, rfl⟩ := List.mem_iff_getElem.1 h
    exact hno k hkl (by omega) rfl
theorem s_HasDot (l : List (Int × Int)) (hl : l.length ≤ 1000000) (xs : List Value) (o c : Nat) (hr : RowG dcl 2 xs o c l) (d : Int × Int) :
    Ctr Tryz.prog F_slices_Contains_sl_api_Dot_api_Dot [.sl 0 o l.length c, .agg (dcells d.1 d.2)] [.arr xs T_api_Dot] (fun r H => r = bv (decide (d ∈ l)) ∧ H = [.arr xs T_api_Dot]) := by
  refine i_slices_Contains_sl_api_Dot_api_Dot.spec follows ?_
  refine VCall.mk [0] (s_IndexDot l hl xs o c hr d) ⟨rfl, rfl, rfl⟩ ?_
  rintro _ _ ⟨⟨i, rfl, h⟩ | ⟨rfl, h⟩, rfl⟩
  · exact VRet.mk [0] (bv (decide ((0 : Int) ≤ (i : Int)))) [.arr xs T_api_Dot] ⟨rfl, rfl, rfl⟩ ⟨by rw [decide_eq_true h, decide_eq_true (Int.natCast_nonneg i)], rfl⟩
  · exact VRet.mk [0] (bv (decide ((0 : Int) ≤ -1))) [.arr xs T_api_Dot] ⟨rfl, rfl, rfl⟩ ⟨by rw [decide_eq_false h]; rfl, rfl⟩
theorem s_IndexStr (l : List ByteArray) (hl : l.length ≤ 1000000) (xs : List Value) (o c : Nat) (hr : RowG bcl 1 xs o c l) (f : ByteArray) :
    Ctr Tryz.prog F_slices_Index_sl_string_string [.sl 0 o l.length c, .raw (.string f)] [.arr xs T_string] (fun r H => ((∃ i : Nat, r = iv i ∧ f ∈ l) ∨ (r = iv (-1) ∧ f ∉ l)) ∧ H = [.arr xs T_string]) := by
  refine i_slices_Index_sl_string_string.spec follows ?_
  refine VLoop.mk Nat (fun i => [(0, .sl 0 o l.length c), (1, .raw (.string f)), (7, iv l.length), (8, iv i)]) (fun _ => [.arr xs T_string]) (fun i => i ≤ l.length ∧ ∀ k (hk : k < l.length), k < i → l[k] ≠ f) (fun i => l.length - i) 0 [0]
    ⟨⟨Nat.zero_le _, fun k _ hk => absurd hk (Nat.not_lt_zero k)⟩, rfl, rfl, rfl⟩ ?_
  rintro i ⟨hi, hno⟩ g
  refine And.intro (fun t1 => ?_) (fun t1 => ?_)
  · have t1 : (i : Int) < (l.length : Nat) := of_decide_eq_true t1
    have hil : i < l.length := Int.ofNat_lt.1 t1
    have hwi := wrapM hil hl
    have hx := RowG.one hr (fun _ => rfl) hil
    refine And.intro ⟨Int.natCast_nonneg i, t1, RowG.room hr⟩ (Exists.intro _ (And.intro (by rw [Int.toNat_natCast]; exact hx) ?_))
    refine And.intro (fun t2 => ?_) (fun t2 => ?_)
    · rw [strB] at t2
      have t2 : f = l[i] := of_decide_eq_true t2
      exact VRet.mk [0] (iv i) [.arr xs T_string] ⟨rfl, rfl, rfl⟩ ⟨.inl ⟨i, rfl, t2 ▸ List.getElem_mem hil⟩, rfl⟩
    · rw [strB] at t2
      have t2 : ¬ f = l[i] := of_decide_eq_false t2
      refine Exists.intro _ (And.intro hwi ?_)
      refine Exists.intro (i + 1) (Exists.intro [0] (And.intro ⟨⟨hil, fun k hkl hk1 => ?_⟩, subM hil⟩ ⟨rfl, rfl, rfl⟩))
      by_cases e : k = i
      · subst e; exact fun h => t2 h.symm
      · exact hno k hkl (by omega)
  · have hil : i = l.length := Nat.le_antisymm hi (Int.ofNat_le.1 (Int.not_lt.1 (of_decide_eq_false t1)))
    refine VRet.mk [0] (iv (-1)) [.arr xs T_string] ⟨rfl, rfl, rfl⟩ ⟨.inr ⟨rfl, fun h => ?_⟩, rfl⟩
    obtain ⟨k, hkl, rfl⟩ := List.mem_iff_getElem.1 h
    exact hno k hkl (by omega) rfl
def inB (f : ByteArray) (l : List ByteArray) : Bool := l.any fun t => decide (t = f)
theorem inB_iff {f : ByteArray} {l : List ByteArray} : inB f l = true ↔ f ∈ l := by
  unfold inB
  rw [List.any_eq_true]
  constructor
  · rintro ⟨t, ht, e⟩
    rw [decide_eq_true_eq] at e
    subst e; exact ht
  · exact fun h => ⟨f, h, by simp⟩
theorem s_HasStr (l : List ByteArray) (hl : l.length ≤ 1000000) (xs : List Value) (o c : Nat) (hr : RowG bcl 1 xs o c l) (f : ByteArray) :
    Ctr Tryz.prog F_slices_Contains_sl_string_string [.sl 0 o l.length c, .raw (.string f)] [.arr xs T_string] (fun r H => r = bv (inB f l) ∧ H = [.arr xs T_string]) := by
  refine i_slices_Contains_sl_string_string.spec follows ?_
  refine VCall.mk [0] (s_IndexStr l hl xs o c hr f) ⟨rfl, rfl, rfl⟩ ?_
  rintro _ _ ⟨⟨i, rfl, h⟩ | ⟨rfl, h⟩, rfl⟩
  · exact VRet.mk [0] (bv (decide ((0 : Int) ≤ (i : Int)))) [.arr xs T_string] ⟨rfl, rfl, rfl⟩ ⟨by rw [inB_iff.2 h, decide_eq_true (Int.natCast_nonneg i)], rfl⟩
  · exact VRet.mk [0] (bv (decide ((0 : Int) ≤ -1))) [.arr xs T_string] ⟨rfl, rfl, rfl⟩ ⟨by rw [Bool.eq_false_iff.2 fun e => h (inB_iff.1 e)]; rfl, rfl⟩
theorem users_m {us : MU} {d : List (List UInt8)} (hU : UsL us d) {xs : List Value} {o c : Nat} (hr : RowG scl 1 xs o c d) : ∃ m : List ByteArray, RowG bcl 1 xs o c m ∧ m.length = us.length ∧ ∀ f, f ∈ m ↔ (MP.get us f).isSome = true := by
  refine ⟨d.map fun t => ⟨t.toArray⟩, ⟨by rw [List.length_map]; exact hr.1, hr.2.1, ?_⟩, by rw [List.length_map, hU.1.length_eq, List.length_map], fun f => ?_⟩
  · rw [List.length_map, hr.2.2, List.flatMap_map]; rfl
  · rw [List.mem_map]
    constructor
    · rintro ⟨t, ht, rfl⟩
      have h1 := (hU.1.mem_iff).1 ht
      obtain ⟨e, he, rfl⟩ := List.mem_map.1 h1
      exact get_mem.2 (List.mem_map.2 ⟨e, he, rfl⟩)
    · intro h
      obtain ⟨e, he, rfl⟩ := List.mem_map.1 (get_mem.1 h)
      exact ⟨ktx e, (hU.1.mem_iff).2 (List.mem_map.2 ⟨e, he, rfl⟩), rfl⟩
/-! ### Why a step is refused -/
def usrE (x : HL) (f : ByteArray) : Int := bif (MP.get x.us f).isSome then 0 else 4
def aucE (x : HL) (d : Int × Int) : Int := bif decide (d ∈ aucF x) then (bif openF x d then 0 else 12) else 4
def canF (x : HL) (b : Int × Int) : Int := match (aucF x).find? fun d => decide (b ∈ bidsF x.bs d x.v) with
  | none => 4
  | some d => aucE x d
theorem s_user (h : Nat → Option Obj) (hc : CaseH h) (x : HL) (N : Nat) (hx : HI x N) (hN : N ≤ 1000000) (rx : List Value) (ro rc : Nat) (s : ST) (hu : s.user.size ≤ 100000000) :
    Ctr Tryz.prog F_gen_maker_user [.agg (.ptr 0 0 :: stcells s)] (hoH x rx ro rc ++ [.heap h]) (fun r H => r = iv (usrE x (foldB s.user)) ∧ H = hoH x rx ro rc ++ [.heap h]) := by
  refine i_gen_maker_user.spec follows ?_
  refine VCall.mk [0, 1, 2, 3, 4, 5] (s_Users x N hx hN rx ro rc) ⟨rfl, rfl, rfl⟩ ?_
  rintro _ _ ⟨d, xs, o, c, hU, rfl, rfl, hr⟩
  have hm := users_m hU hr
  obtain ⟨m, hm1, hm2, hm3⟩ := hm
  have hC := s_HasStr m (by rw [hm2]; exact Nat.le_trans hx.ul hN) xs o c hm1 (foldB s.user)
  rw [hm2] at hC
  refine And.intro rfl ?_
  refine VCall.mk [6] (s_name_Fold h hc s.user hu) ⟨rfl, rfl, rfl⟩ ?_
  rintro _ _ ⟨rfl, rfl⟩
  refine VCall.mk [8] hC ⟨rfl, rfl, rfl⟩ ?_
  rintro _ _ ⟨rfl, rfl⟩
  refine And.intro (fun k => ?_) (fun k => ?_)
  · have k := nT' k
    refine VRet.mk [0, 1, 2, 3, 4, 5, 6] (iv 4) (hoH x rx ro rc ++ [.heap h]) ⟨rfl, rfl, rfl⟩ ⟨?_, rfl⟩
    rw [usrE, show (MP.get x.us (foldB s.user)).isSome = false from Bool.eq_false_iff.2 fun e => Bool.eq_false_iff.1 k (inB_iff.2 ((hm3 _).2 e))]; rfl
  · have k := inB_iff.1 (nF' k)
    refine VRet.mk [0, 1, 2, 3, 4, 5, 6] (iv 0) (hoH x rx ro rc ++ [.heap h]) ⟨rfl, rfl, rfl⟩ ⟨?_, rfl⟩
    rw [usrE, (hm3 _).1 k]; rfl
theorem s_auction (h : Nat → Option Obj) (x : HL) (N : Nat) (hx : HI x N) (hN : N ≤ 1000000) (rx : List Value) (ro rc : Nat) (s : ST) (d : Int × Int) :
    Ctr Tryz.prog F_gen_maker_auction [.agg (.ptr 0 0 :: stcells s), .agg (dcells d.1 d.2)] (hoH x rx ro rc ++ [.heap h]) (fun r H => r = iv (aucE x d) ∧ H = hoH x rx ro rc ++ [.heap h]) := by
  refine i_gen_maker_auction.spec follows ?_
  refine VCall.mk [0, 1, 2, 3, 4, 5] (s_Auctions x N hx hN rx ro rc) ⟨rfl, rfl, rfl⟩ ?_
  rintro _ _ ⟨xs, o, c, rfl, rfl, hr, hal⟩
  refine And.intro rfl ?_
  refine VCall.mk [9] (s_HasDot (aucF x) (Nat.le_trans hal hN) xs o c hr d) ⟨rfl, rfl, rfl⟩ ?_
  rintro _ _ ⟨rfl, rfl⟩
  refine And.intro (fun k => ?_) (fun k => ?_)
  · have k := nT' k
    exact VRet.mk [0, 1, 2, 3, 4, 5, 6] (iv 4) (hoH x rx ro rc ++ [.heap h]) ⟨rfl, rfl, rfl⟩ ⟨by rw [aucE, k]; rfl, rfl⟩
  · have k := nF' k
    refine VCall.mk [0, 1, 2, 3, 4, 5] (s_Open x rx ro rc d) ⟨rfl, rfl, rfl⟩ ?_
    rintro _ _ ⟨rfl, rfl⟩
    refine And.intro (fun k2 => ?_) (fun k2 => ?_)
    · have k2 := nT' k2
      exact VRet.mk [0, 1, 2, 3, 4, 5, 6] (iv 12) (hoH x rx ro rc ++ [.heap h]) ⟨rfl, rfl, rfl⟩ ⟨by rw [aucE, k, k2]; rfl, rfl⟩
    · have k2 := nF' k2
      exact VRet.mk [0, 1, 2, 3, 4, 5, 6] (iv 0) (hoH x rx ro rc ++ [.heap h]) ⟨rfl, rfl, rfl⟩ ⟨by rw [aucE, k, k2]; rfl, rfl⟩
end Go.Proofs

namespace Go.Proofs
open Go Go.V Go.Lib
set_option maxRecDepth 100000
set_option linter.unusedVariables false

theorem s_cancel (h : Nat → Option Obj) (x : HL) (N : Nat) (hx : HI x N) (hN : N ≤ 1000000) (rx : List Value) (ro rc : Nat) (s : ST) :
    Ctr Tryz.prog F_gen_maker_cancel [.agg (.ptr 0 0 :: stcells s)] (hoH x rx ro rc ++ [.heap h]) (fun r H => r = iv (canF x (s.br, s.bn)) ∧ H = hoH x rx ro rc ++ [.heap h]) := by
  refine i_gen_maker_cancel.spec follows ?_
  refine VCall.mk [0, 1, 2, 3, 4, 5] (s_Auctions x N hx hN rx ro rc) ⟨rfl, rfl, rfl⟩ ?_
  rintro _ _ ⟨xs, o, c, rfl, rfl, hr, hal⟩
  have hal2 := Nat.le_trans hal hN
  refine VLoop.mk Nat (fun i => [(1, .ptr 7 0), (7, .sl 8 o (aucF x).length c), (8, iv (aucF x).length), (9, iv i)]) (fun _ => hoH x rx ro rc ++ [.heap h, .cells (.ptr 0 0 :: stcells s) T_gen_maker, .arr xs T_api_Dot]) (fun i => i ≤ (aucF x).length ∧ ∀ k (hk : k < (aucF x).length), k < i → decide ((s.br, s.bn) ∈ bidsF x.bs (aucF x)[k] x.v) = false) (fun i => (aucF x).length - i) 0 [0, 1, 2, 3, 4, 5, 6, 7, 8]
    ⟨⟨Nat.zero_le _, fun k _ hk => absurd hk (Nat.not_lt_zero k)⟩, rfl, rfl, rfl⟩ ?_
  rintro i ⟨hi, hno⟩ g
  refine And.intro (fun t1 => ?_) (fun t1 => ?_)
  · have t1 : (i : Int) < ((aucF x).length : Nat) := of_decide_eq_true t1
    have hil : i < (aucF x).length := Int.ofNat_lt.1 t1
    have hwi := wrapM hil hal2
    have hx1 := hr.cut (fun _ => rfl) hil
    refine And.intro ⟨Int.natCast_nonneg i, t1, RowG.room hr⟩ (Exists.intro _ (And.intro (by rw [Int.toNat_natCast]; exact hx1) ?_))
    refine VCall.mk [0, 1, 2, 3, 4, 5] (s_Bids x hx.b hx.bk (Nat.le_trans hx.bl hN) rx ro rc (aucF x)[i]) ⟨rfl, rfl, rfl⟩ ?_
    rintro _ _ ⟨ys, o2, c2, rfl, rfl, hr2, hl2⟩
    refine And.intro rfl ?_
    refine VCall.mk [10] (s_HasDot (bidsF x.bs (aucF x)[i] x.v) (Nat.le_trans hl2 (Nat.le_trans hx.bl hN)) ys o2 c2 hr2 (s.br, s.bn)) ⟨rfl, rfl, rfl⟩ ?_
    rintro _ _ ⟨rfl, rfl⟩
    refine And.intro (fun t2 => ?_) (fun t2 => ?_)
    · have t2 : decide ((s.br, s.bn) ∈ bidsF x.bs (aucF x)[i] x.v) = true := t2
      refine VCall.mk [0, 1, 2, 3, 4, 5, 6] (s_auction h x N hx hN rx ro rc s (aucF x)[i]) ⟨rfl, rfl, rfl⟩ ?_
      rintro _ _ ⟨rfl, rfl⟩
      have e : canF x (s.br, s.bn) = aucE x (aucF x)[i] := by unfold canF; rw [find_at hil hno t2]
      exact VRet.mk [0, 1, 2, 3, 4, 5, 6] (iv (aucE x (aucF x)[i])) (hoH x rx ro rc ++ [.heap h]) ⟨rfl, rfl, rfl⟩ ⟨by rw [e], rfl⟩
    · have t2 : decide ((s.br, s.bn) ∈ bidsF x.bs (aucF x)[i] x.v) = false := t2
      refine Exists.intro _ (And.intro hwi ?_)
      refine Exists.intro (i + 1) (Exists.intro [0, 1, 2, 3, 4, 5, 6, 7, 8] (And.intro ⟨⟨hil, fun k hkl hk1 => ?_⟩, subM hil⟩ ⟨rfl, rfl, rfl⟩))
      by_cases e : k = i
      · subst e; exact t2
      · exact hno k hkl (by omega)
  · have hil : i = (aucF x).length := Nat.le_antisymm hi (Int.ofNat_le.1 (Int.not_lt.1 (of_decide_eq_false t1)))
    have e : canF x (s.br, s.bn) = 4 := by unfold canF; rw [find_no fun k hk => hno k hk (by omega)]
    exact VRet.mk [0, 1, 2, 3, 4, 5, 6] (iv 4) (hoH x rx ro rc ++ [.heap h]) ⟨rfl, rfl, rfl⟩ ⟨by rw [e], rfl⟩
def refF (x : HL) (s : ST) : Int :=
  bif decide (s.kind = 2) then (bif decide (aucE x (s.ar, s.an) = 0) then usrE x (foldB s.user) else aucE x (s.ar, s.an)) else
  bif decide (s.kind = 3) then canF x (s.br, s.bn) else
  bif decide (s.kind = 4) then usrE x (foldB s.user) else
  bif decide (s.kind = 5) then (bif decide (usrE x (foldB s.user) = 0) then 5 else 0) else
  bif decide (s.kind = 6) then (bif decide (usrE x (foldB s.user) = 0) then (bif decide (depF x s.user - drawnF x (foldB s.user) < s.amount) then 11 else 0) else usrE x (foldB s.user)) else
  bif decide (s.kind = 7) then aucE x (s.ar, s.an) else 0
set_option maxHeartbeats 1000000 in
theorem s_refused (h : Nat → Option Obj) (hc : CaseH h) (x : HL) (N : Nat) (hx : HI x N) (hN : N ≤ 1000000) (rx : List Value) (ro rc : Nat) (s : ST) (hu : s.user.size ≤ 100000000) :
    Ctr Tryz.prog F_gen_maker_refused [.agg (.ptr 0 0 :: stcells s)] (hoH x rx ro rc ++ [.heap h]) (fun r H => r = iv (refF x s) ∧ H = hoH x rx ro rc ++ [.heap h]) := by
  have fin : ∀ (e : Int) (l : List SO), refF x s = e → VRet 7 (iv e) (hoH x rx ro rc ++ .heap h :: l) (fun r H => r = iv (refF x s) ∧ H = hoH x rx ro rc ++ [.heap h]) := by
    rintro e l rfl
    exact VRet.mk [0, 1, 2, 3, 4, 5, 6] (iv (refF x s)) (hoH x rx ro rc ++ [.heap h]) ⟨rfl, rfl, rfl⟩ ⟨rfl, rfl⟩
  have sA := s_auction h x N hx hN rx ro rc s (s.ar, s.an)
  have sU := s_user h hc x N hx hN rx ro rc s hu
  refine i_gen_maker_refused.spec follows ?_
  refine And.intro (fun k => ?_) (fun k2 => ?_)
  · have k : s.kind = 2 := of_decide_eq_true k
    refine VCall.mk [0, 1, 2, 3, 4, 5, 6] sA ⟨rfl, rfl, rfl⟩ ?_
    rintro _ _ ⟨rfl, rfl⟩
    refine And.intro (fun t => ?_) (fun t => ?_)
    · have t : decide (aucE x (s.ar, s.an) = 0) = false := nT' t
      exact fin _ _ (by simp [refF, k, t])
    · have t : decide (aucE x (s.ar, s.an) = 0) = true := nF' t
      refine VCall.mk [0, 1, 2, 3, 4, 5, 6] sU ⟨rfl, rfl, rfl⟩ ?_
      rintro _ _ ⟨rfl, rfl⟩
      exact fin _ _ (by simp only [refF, k, t]; rfl)
  have k2 : ¬ s.kind = 2 := of_decide_eq_false k2
  refine And.intro (fun k => ?_) (fun k3 => ?_)
  · have k : s.kind = 3 := of_decide_eq_true k
    refine VCall.mk [0, 1, 2, 3, 4, 5, 6] (s_cancel h x N hx hN rx ro rc s) ⟨rfl, rfl, rfl⟩ ?_
    rintro _ _ ⟨rfl, rfl⟩
    exact fin _ _ (by simp [refF, k])
  have k3 : ¬ s.kind = 3 := of_decide_eq_false k3
  refine And.intro (fun k => ?_) (fun k4 => ?_)
  · have k : s.kind = 4 := of_decide_eq_true k
    refine VCall.mk [0, 1, 2, 3, 4, 5, 6] sU ⟨rfl, rfl, rfl⟩ ?_
    rintro _ _ ⟨rfl, rfl⟩
    exact fin _ _ (by simp [refF, k])
  have k4 : ¬ s.kind = 4 := of_decide_eq_false k4
  refine And.intro (fun k => ?_) (fun k5 => ?_)
  · have k : s.kind = 5 := of_decide_eq_true k
    refine VCall.mk [0, 1, 2, 3, 4, 5, 6] sU ⟨rfl, rfl, rfl⟩ ?_
    rintro _ _ ⟨rfl, rfl⟩
    refine And.intro (fun t => ?_) (fun t => ?_)
    · have t : decide (usrE x (foldB s.user) = 0) = true := t
      exact fin _ _ (by simp only [refF, k, t]; rfl)
    · have t : decide (usrE x (foldB s.user) = 0) = false := t
      exact fin _ _ (by simp only [refF, k, t]; rfl)
  have k5 : ¬ s.kind = 5 := of_decide_eq_false k5
  refine And.intro (fun k => ?_) (fun k6 => ?_)
  · have k : s.kind = 6 := of_decide_eq_true k
    refine VCall.mk [0, 1, 2, 3, 4, 5, 6] sU ⟨rfl, rfl, rfl⟩ ?_
    rintro _ _ ⟨rfl, rfl⟩
    refine And.intro (fun t => ?_) (fun t => ?_)
    · have t : decide (usrE x (foldB s.user) = 0) = false := nT' t
      exact fin _ _ (by simp only [refF, k, t]; rfl)
    · have t : decide (usrE x (foldB s.user) = 0) = true := nF' t
      refine VCall.mk [0, 1, 2, 3, 4, 5, 6] (s_Balance h hc x N hx rx ro rc s.user hu) ⟨rfl, rfl, rfl⟩ ?_
      rintro _ _ ⟨rfl, rfl⟩
      refine And.intro rfl ?_
      refine And.intro (fun t2 => ?_) (fun t2 => ?_)
      · have t2 : decide (depF x s.user - drawnF x (foldB s.user) < s.amount) = true := t2
        exact fin _ _ (by simp only [refF, k, t, t2]; rfl)
      · have t2 : decide (depF x s.user - drawnF x (foldB s.user) < s.amount) = false := t2
        exact fin _ _ (by simp only [refF, k, t, t2]; rfl)
  have k6 : ¬ s.kind = 6 := of_decide_eq_false k6
  refine And.intro (fun k => ?_) (fun k7 => ?_)
  · have k : s.kind = 7 := of_decide_eq_true k
    refine VCall.mk [0, 1, 2, 3, 4, 5, 6] sA ⟨rfl, rfl, rfl⟩ ?_
    rintro _ _ ⟨rfl, rfl⟩
    exact fin _ _ (by simp [refF, k])
  have k7 : ¬ s.kind = 7 := of_decide_eq_false k7
  exact fin _ _ (by simp [refF, k2, k3, k4, k5, k6, k7])
/-! ### What a call becomes -/
structure CT where
  kind : Int
  name : ByteArray
  user : ByteArray
  ar : Int
  an : Int
  br : Int
  bn : Int
  amount : Int
abbrev cacells (c : CT) : List SV := [iv c.kind, .raw (.string c.name), .raw (.string c.user), iv c.ar, iv c.an, iv c.br, iv c.bn, iv c.amount]
def mk0 (x : HL) (c : CT) (d : Int × Int) (f : Int) : ST := ⟨c.kind, d.1, d.2, x.v, x.red.length, c.name, c.user, c.ar, c.an, c.br, c.bn, c.amount, f⟩
def makeS (x : HL) (c : CT) (d : Int × Int) : ST := mk0 x c d (bif decide (c.kind = 6) then depF x c.user else 0)
def makeE (x : HL) (c : CT) (d : Int × Int) : Int := bif goodT (makeS x c d) then refF x (makeS x c d) else 1
def makeN (x : HL) (c : CT) (d : Int × Int) : ST := bif decide (makeE x c d = 0) then makeS x c d else zeroT'
set_option maxHeartbeats 4000000 in
theorem s_Make (h : Nat → Option Obj) (hu : Uni h) (hc : CaseH h) (x : HL) (N : Nat) (hx : HI x N) (hN : N ≤ 1000000) (rx : List Value) (ro rc : Nat) (c : CT) (d : Int × Int) (z1 : c.name.size ≤ 1000) (z2 : c.user.size ≤ 1000) :
    Ctr Tryz.prog F_gen_Make [.ptr 0 0, .agg (cacells c), .agg (dcells d.1 d.2)] (hoH x rx ro rc ++ [.heap h]) (fun r H => r = .tup [.agg (stcells (makeN x c d)), iv (makeE x c d)] ∧ H = hoH x rx ro rc ++ [.heap h]) := by
  have fin : ∀ (s : ST) (e : Int) (l : List SO), makeN x c d = s → makeE x c d = e → VRet 7 (.tup [.agg (stcells s), iv e]) (hoH x rx ro rc ++ .heap h :: l) (fun r H => r = .tup [.agg (stcells (makeN x c d)), iv (makeE x c d)] ∧ H = hoH x rx ro rc ++ [.heap h]) := by
    rintro s e l rfl rfl
    exact VRet.mk [0, 1, 2, 3, 4, 5, 6] (.tup [.agg (stcells (makeN x c d)), iv (makeE x c d)]) (hoH x rx ro rc ++ [.heap h]) ⟨rfl, rfl, rfl⟩ ⟨rfl, rfl⟩
  refine i_gen_Make.spec follows ?_
  refine And.intro ?a ?b
  case a =>
    refine VCall.mk [0, 1, 2, 3, 4, 5] (s_Have x rx ro rc) ⟨rfl, rfl, rfl⟩ ?_
    rintro _ _ ⟨rfl, rfl⟩
    refine And.intro rfl (And.intro rfl (And.intro rfl (And.intro rfl (And.intro rfl (And.intro rfl (And.intro rfl ?_))))))
    refine And.intro ?c ?d
    case c =>
      refine VCall.mk [0, 1, 2, 3, 4, 5] (s_Reds x rx ro rc) ⟨rfl, rfl, rfl⟩ ?_
      rintro _ _ ⟨rfl, rfl⟩
      repeat refine And.intro rfl ?_
      refine And.intro (fun k6 => ?_) (fun k6 => ?_)
      · have k6 : decide (c.kind = 6) = true := k6
        refine VCall.mk [0, 1, 2, 3, 4, 5, 6] (s_Deposited h hc x N hx rx ro rc c.user (Nat.le_trans z2 (by decide))) ⟨rfl, rfl, rfl⟩ ?_
        rintro _ _ ⟨rfl, rfl⟩
        have hmk : makeS x c d = mk0 x c d (depF x c.user) := by rw [makeS, k6]; rfl
        refine VCall.mk [6] (s_Good h hu (mk0 x c d (depF x c.user)) (Nat.le_trans z1 (by decide)) (Nat.le_trans z2 (by decide))) ⟨rfl, rfl, rfl⟩ ?_
        rintro _ _ ⟨rfl, rfl⟩
        refine And.intro (fun kg => ?_) (fun kg => ?_)
        · have kg := nT' kg
          exact fin zeroT' 1 _ (by rw [makeN, makeE, hmk, kg]; rfl) (by rw [makeE, hmk, kg]; rfl)
        have kg := nF' kg
        have hE : makeE x c d = refF x (mk0 x c d (depF x c.user)) := by rw [makeE, hmk, kg]; rfl
        refine VCall.mk [0, 1, 2, 3, 4, 5, 6] (s_refused h hc x N hx hN rx ro rc (mk0 x c d (depF x c.user)) (Nat.le_trans z2 (by decide))) ⟨rfl, rfl, rfl⟩ ?_
        rintro _ _ ⟨rfl, rfl⟩
        refine And.intro (fun kr => ?_) (fun kr => ?_)
        · have kr : decide (refF x (mk0 x c d (depF x c.user)) = 0) = false := nT' kr
          exact fin zeroT' _ _ (by rw [makeN, hE, kr]; rfl) hE
        · have kr : decide (refF x (mk0 x c d (depF x c.user)) = 0) = true := nF' kr
          exact fin (mk0 x c d (depF x c.user)) 0 _ (by rw [makeN, hE, kr, hmk]; rfl) (by rw [hE]; exact of_decide_eq_true kr)
      · have k6 : decide (c.kind = 6) = false := k6
        have hmk : makeS x c d = mk0 x c d 0 := by rw [makeS, k6]; rfl
        refine VCall.mk [6] (s_Good h hu (mk0 x c d 0) (Nat.le_trans z1 (by decide)) (Nat.le_trans z2 (by decide))) ⟨rfl, rfl, rfl⟩ ?_
        rintro _ _ ⟨rfl, rfl⟩
        refine And.intro (fun kg => ?_) (fun kg => ?_)
        · have kg := nT' kg
          exact fin zeroT' 1 _ (by rw [makeN, makeE, hmk, kg]; rfl) (by rw [makeE, hmk, kg]; rfl)
        have kg := nF' kg
        have hE : makeE x c d = refF x (mk0 x c d 0) := by rw [makeE, hmk, kg]; rfl
        refine VCall.mk [0, 1, 2, 3, 4, 5, 6] (s_refused h hc x N hx hN rx ro rc (mk0 x c d 0) (Nat.le_trans z2 (by decide))) ⟨rfl, rfl, rfl⟩ ?_
        rintro _ _ ⟨rfl, rfl⟩
        refine And.intro (fun kr => ?_) (fun kr => ?_)
        · have kr : decide (refF x (mk0 x c d 0) = 0) = false := nT' kr
          exact fin zeroT' _ _ (by rw [makeN, hE, kr]; rfl) hE
        · have kr : decide (refF x (mk0 x c d 0) = 0) = true := nF' kr
          exact fin (mk0 x c d 0) 0 _ (by rw [makeN, hE, kr, hmk]; rfl) (by rw [hE]; exact of_decide_eq_true kr)
    case d =>
      repeat refine And.intro rfl ?_
      refine VCall.mk [0, 1, 2, 3, 4, 5] (s_Reds x rx ro rc) ⟨rfl, rfl, rfl⟩ ?_
      rintro _ _ ⟨rfl, rfl⟩
      repeat refine And.intro rfl ?_
      refine And.intro (fun k6 => ?_) (fun k6 => ?_)
      · have k6 : decide (c.kind = 6) = true := k6
        refine VCall.mk [0, 1, 2, 3, 4, 5, 6] (s_Deposited h hc x N hx rx ro rc c.user (Nat.le_trans z2 (by decide))) ⟨rfl, rfl, rfl⟩ ?_
        rintro _ _ ⟨rfl, rfl⟩
        have hmk : makeS x c d = mk0 x c d (depF x c.user) := by rw [makeS, k6]; rfl
        refine VCall.mk [6] (s_Good h hu (mk0 x c d (depF x c.user)) (Nat.le_trans z1 (by decide)) (Nat.le_trans z2 (by decide))) ⟨rfl, rfl, rfl⟩ ?_
        rintro _ _ ⟨rfl, rfl⟩
        refine And.intro (fun kg => ?_) (fun kg => ?_)
        · have kg := nT' kg
          exact fin zeroT' 1 _ (by rw [makeN, makeE, hmk, kg]; rfl) (by rw [makeE, hmk, kg]; rfl)
        have kg := nF' kg
        have hE : makeE x c d = refF x (mk0 x c d (depF x c.user)) := by rw [makeE, hmk, kg]; rfl
        refine VCall.mk [0, 1, 2, 3, 4, 5, 6] (s_refused h hc x N hx hN rx ro rc (mk0 x c d (depF x c.user)) (Nat.le_trans z2 (by decide))) ⟨rfl, rfl, rfl⟩ ?_
        rintro _ _ ⟨rfl, rfl⟩
        refine And.intro (fun kr => ?_) (fun kr => ?_)
        · have kr : decide (refF x (mk0 x c d (depF x c.user)) = 0) = false := nT' kr
          exact fin zeroT' _ _ (by rw [makeN, hE, kr]; rfl) hE
        · have kr : decide (refF x (mk0 x c d (depF x c.user)) = 0) = true := nF' kr
          exact fin (mk0 x c d (depF x c.user)) 0 _ (by rw [makeN, hE, kr, hmk]; rfl) (by rw [hE]; exact of_decide_eq_true kr)
      · have k6 : decide (c.kind = 6) = false := k6
        have hmk : makeS x c d = mk0 x c d 0 := by rw [makeS, k6]; rfl
        refine VCall.mk [6] (s_Good h hu (mk0 x c d 0) (Nat.le_trans z1 (by decide)) (Nat.le_trans z2 (by decide))) ⟨rfl, rfl, rfl⟩ ?_
        rintro _ _ ⟨rfl, rfl⟩
        refine And.intro (fun kg => ?_) (fun kg => ?_)
        · have kg := nT' kg
          exact fin zeroT' 1 _ (by rw [makeN, makeE, hmk, kg]; rfl) (by rw [makeE, hmk, kg]; rfl)
        have kg := nF' kg
        have hE : makeE x c d = refF x (mk0 x c d 0) := by rw [makeE, hmk, kg]; rfl
        refine VCall.mk [0, 1, 2, 3, 4, 5, 6] (s_refused h hc x N hx hN rx ro rc (mk0 x c d 0) (Nat.le_trans z2 (by decide))) ⟨rfl, rfl, rfl⟩ ?_
        rintro _ _ ⟨rfl, rfl⟩
        refine And.intro (fun kr => ?_) (fun kr => ?_)
        · have kr : decide (refF x (mk0 x c d 0) = 0) = false := nT' kr
          exact fin zeroT' _ _ (by rw [makeN, hE, kr]; rfl) hE
        · have kr : decide (refF x (mk0 x c d 0) = 0) = true := nF' kr
          exact fin (mk0 x c d 0) 0 _ (by rw [makeN, hE, kr, hmk]; rfl) (by rw [hE]; exact of_decide_eq_true kr)
  case b =>
    repeat refine And.intro rfl ?_
    refine VCall.mk [0, 1, 2, 3, 4, 5] (s_Have x rx ro rc) ⟨rfl, rfl, rfl⟩ ?_
    rintro _ _ ⟨rfl, rfl⟩
    repeat refine And.intro rfl ?_
    refine VCall.mk [0, 1, 2, 3, 4, 5] (s_Reds x rx ro rc) ⟨rfl, rfl, rfl⟩ ?_
    rintro _ _ ⟨rfl, rfl⟩
    repeat refine And.intro rfl ?_
    refine And.intro (fun k6 => ?_) (fun k6 => ?_)
    · have k6 : decide (c.kind = 6) = true := k6
      refine VCall.mk [0, 1, 2, 3, 4, 5, 6] (s_Deposited h hc x N hx rx ro rc c.user (Nat.le_trans z2 (by decide))) ⟨rfl, rfl, rfl⟩ ?_
      rintro _ _ ⟨rfl, rfl⟩
      have hmk : makeS x c d = mk0 x c d (depF x c.user) := by rw [makeS, k6]; rfl
      refine VCall.mk [6] (s_Good h hu (mk0 x c d (depF x c.user)) (Nat.le_trans z1 (by decide)) (Nat.le_trans z2 (by decide))) ⟨rfl, rfl, rfl⟩ ?_
      rintro _ _ ⟨rfl, rfl⟩
      refine And.intro (fun kg => ?_) (fun kg => ?_)
      · have kg := nT' kg
        exact fin zeroT' 1 _ (by rw [makeN, makeE, hmk, kg]; rfl) (by rw [makeE, hmk, kg]; rfl)
      have kg := nF' kg
      have hE : makeE x c d = refF x (mk0 x c d (depF x c.user)) := by rw [makeE, hmk, kg]; rfl
      refine VCall.mk [0, 1, 2, 3, 4, 5, 6] (s_refused h hc x N hx hN rx ro rc (mk0 x c d (depF x c.user)) (Nat.le_trans z2 (by decide))) ⟨rfl, rfl, rfl⟩ ?_
      rintro _ _ ⟨rfl, rfl⟩
      refine And.intro (fun kr => ?_) (fun kr => ?_)
      · have kr : decide (refF x (mk0 x c d (depF x c.user)) = 0) = false := nT' kr
        exact fin zeroT' _ _ (by rw [makeN, hE, kr]; rfl) hE
      · have kr : decide (refF x (mk0 x c d (depF x c.user)) = 0) = true := nF' kr
        exact fin (mk0 x c d (depF x c.user)) 0 _ (by rw [makeN, hE, kr, hmk]; rfl) (by rw [hE]; exact of_decide_eq_true kr)
    · have k6 : decide (c.kind = 6) = false := k6
      have hmk : makeS x c d = mk0 x c d 0 := by rw [makeS, k6]; rfl
      refine VCall.mk [6] (s_Good h hu (mk0 x c d 0) (Nat.le_trans z1 (by decide)) (Nat.le_trans z2 (by decide))) ⟨rfl, rfl, rfl⟩ ?_
      rintro _ _ ⟨rfl, rfl⟩
      refine And.intro (fun kg => ?_) (fun kg => ?_)
      · have kg := nT' kg
        exact fin zeroT' 1 _ (by rw [makeN, makeE, hmk, kg]; rfl) (by rw [makeE, hmk, kg]; rfl)
      have kg := nF' kg
      have hE : makeE x c d = refF x (mk0 x c d 0) := by rw [makeE, hmk, kg]; rfl
      refine VCall.mk [0, 1, 2, 3, 4, 5, 6] (s_refused h hc x N hx hN rx ro rc (mk0 x c d 0) (Nat.le_trans z2 (by decide))) ⟨rfl, rfl, rfl⟩ ?_
      rintro _ _ ⟨rfl, rfl⟩
      refine And.intro (fun kr => ?_) (fun kr => ?_)
      · have kr : decide (refF x (mk0 x c d 0) = 0) = false := nT' kr
        exact fin zeroT' _ _ (by rw [makeN, hE, kr]; rfl) hE
      · have kr : decide (refF x (mk0 x c d 0) = 0) = true := nF' kr
        exact fin (mk0 x c d 0) 0 _ (by rw [makeN, hE, kr, hmk]; rfl) (by rw [hE]; exact of_decide_eq_true kr)
end Go.Proofs

namespace Go.Proofs
open Go Go.V Go.Lib
set_option maxRecDepth 100000
set_option linter.unusedVariables false

/-! ### What is written is read again -/
theorem rd_numB : ∀ (k i u a : Nat) (l : List Int), i + k ≤ 8 → u < 128 ^ (k + 1) → (0 < i → 0 < u) → rd (Go.V.numB u ++ l) i a = some (a + u * 2 ^ (7 * i), l)
  | 0, i, u, a, l, hi, hu, h0 => by
    have hu : u < 128 := by simpa using hu
    rw [numB_lt hu, List.singleton_append, rd, if_neg (by omega), if_neg (by omega), if_neg (by omega)]
    simp
  | k + 1, i, u, a, l, hi, hu, h0 => by
    by_cases h1 : u < 128
    · rw [numB_lt h1, List.singleton_append, rd, if_neg (by omega), if_neg (by omega), if_neg (by omega)]
      simp
    · have hq : u / 128 < 128 ^ (k + 1) := by rw [Nat.div_lt_iff_lt_mul (by omega)]; rw [Nat.pow_succ] at hu; omega
      rw [numB_ge h1, List.cons_append, rd, if_neg (by omega), if_pos (by omega), rd_numB k (i + 1) (u / 128) _ l (by omega) hq (by omega)]
      have e1 : ((u % 128 + 128 : Nat) : Int).toNat % 128 = u % 128 := by omega
      have e2 : (2 : Nat) ^ (7 * (i + 1)) = 128 * 2 ^ (7 * i) := by rw [show 7 * (i + 1) = 7 * i + 7 by omega, Nat.pow_add]; omega
      have e3 : u / 128 * (128 * 2 ^ (7 * i)) = (u / 128 * 128) * 2 ^ (7 * i) := by rw [Nat.mul_assoc]
      have e4 : u * 2 ^ (7 * i) = u % 128 * 2 ^ (7 * i) + (u / 128 * 128) * 2 ^ (7 * i) := by
        rw [← Nat.add_mul]; congr 1; omega
      rw [e1, e2, e3, e4, Nat.add_assoc]
theorem rdN_zB {n a b : Int} (l : List Int) (h : 0 ≤ n ∧ n < 4611686018427387904) (hab : a ≤ n ∧ n ≤ b) : rdN (zB n ++ l) a b = some (n, l) := by
  have h1 := rd_numB 8 0 (2 * n.toNat) 0 l (by omega) (by
    have : (128 : Nat) ^ (8 + 1) = 9223372036854775808 := by decide
    rw [this]; omega) (by omega)
  have hz : zig (2 * n.toNat) = n := by
    unfold zig
    rw [if_neg (by omega)]; omega
  simp only [rdN, zB, h1, Nat.mul_zero, Nat.pow_zero, Nat.mul_one, Nat.zero_add, hz]
  rw [if_neg (by omega)]
theorem rdVs_vecB {v : Nat → Int} (hv : ∀ r, r < 7 → 0 ≤ v r ∧ v r ≤ 1099511627776) : ∀ (k : Nat) (l : List Int), k ≤ 7 → ∃ v', rdVs k (vecB v k ++ l) = some (v', l) ∧ ∀ i, i < k → v' i = v i
  | 0, l, _ => ⟨_, rfl, fun i hi => by omega⟩
  | k + 1, l, hk => by
    have hb := hv k (by omega)
    obtain ⟨v', h1, h2⟩ := rdVs_vecB hv k (zB (v k) ++ l) (by omega)
    have h1' : rdVs k (vecB v k ++ (Go.V.numB (2 * (v k).toNat) ++ l)) = some (v', zB (v k) ++ l) := h1
    refine ⟨upv v' k (v k), ?_, fun i hi => ?_⟩
    · rw [rdVs, vecB, List.append_assoc, h1']
      simp only [rdN_zB l (n := v k) (a := 0) (b := 1099511627776) (by omega) hb]
    · simp only [upv]
      by_cases hik : i = k
      · rw [if_pos hik, hik]
      · rw [if_neg hik]; exact h2 i (by omega)
theorem rdDot_zB {r n : Int} (l : List Int) (hr : 0 ≤ r ∧ r ≤ 6) (hn : 0 ≤ n ∧ n ≤ 1099511627776) : rdDot (zB r ++ (zB n ++ l)) = some ((r, n), l) := by
  unfold rdDot
  rw [rdN_zB _ (by omega) hr]
  simp only
  rw [rdN_zB _ (by omega) hn]
theorem strOf_strL (s : ByteArray) : strOf (strL s) = s := by
  cases s with | mk a =>
  unfold strOf strL
  congr 1
  rw [List.map_map]
  have : ((fun n : Int => UInt8.ofNat n.toNat) ∘ fun b : UInt8 => (b.toNat : Int)) = id := by
    funext b
    show UInt8.ofNat ((b.toNat : Int)).toNat = b
    rw [Int.toNat_natCast]; simp
  rw [this]; simp
theorem rdText_textB {s : ByteArray} {lim : Int} (l : List Int) (hs : (s.size : Int) ≤ lim) (h2 : s.size ≤ 1000) : rdText (textB s ++ l) lim = some (s, l) := by
  have h1 : rdN (textB s ++ l) 0 lim = some ((s.size : Int), strL s ++ l) := by
    have := rdN_zB (n := (s.size : Int)) (a := 0) (b := lim) (strL s ++ l) (by omega) (by omega)
    rw [zB, Int.toNat_natCast] at this
    rw [textB, List.append_assoc]; exact this
  unfold rdText
  rw [h1]
  simp only
  have hl : (strL s).length = s.size := strL_len s
  rw [if_neg (by rw [List.length_append, hl]; omega), Int.toNat_natCast, ← hl, List.take_left, List.drop_left, strOf_strL]
theorem good_seen {s : ST} {v : Nat → Int} (h : ∀ i, i < 7 → v i = s.seen i) : goodT { s with seen := v } = goodT s := by
  have h1 : vgoodB v = vgoodB s.seen := by
    apply Bool.eq_iff_iff.2
    rw [vgoodB_iff, vgoodB_iff]
    constructor
    · intro hh i hi; rw [← h i hi]; exact hh i hi
    · intro hh i hi; rw [h i hi]; exact hh i hi
  have hh : headT { s with seen := v } = headT s := by simp only [headT, h1]
  cases hd : headT s with
  | false => rw [goodT, goodT, hh, hd]; rfl
  | true =>
    have hd2 := hd
    simp only [headT, isDot, isRep, Bool.and_eq_true, decide_eq_true_eq] at hd2
    have h2 : v s.rep.toNat = s.seen s.rep.toNat := h _ (by omega)
    have h3 : partT { s with seen := v } = partT s := rfl
    have h4 : redT { s with seen := v } = redT s := rfl
    rw [goodT, goodT, hh, h3, h4]
    simp only [h2]
theorem good_kind' {s : ST} (h : goodT s = true) : 1 ≤ s.kind ∧ s.kind ≤ 7 := by
  simp only [goodT, headT, Bool.and_eq_true, decide_eq_true_eq] at h; omega
theorem get_put_rt {s : ST} (hg : goodT s = true) (h1 : s.name.size ≤ 80) (h2 : s.user.size ≤ 80) : ∃ s', getSt (putB s) = some s' ∧ stcells s' = stcells s := by
  have hs := good_sm hg (Nat.le_trans h1 (by decide)) (Nat.le_trans h2 (by decide))
  obtain ⟨v', hv1, hv2⟩ := rdVs_vecB hs.v 7 (zB s.reds ++ (textB s.name ++ (textB s.user ++ (zB s.ar ++ (zB s.an ++ (zB s.br ++ (zB s.bn ++ (zB s.amount ++ zB s.funds)))))))) (by omega)
  have hk := good_kind' hg
  have e1 := rdN_zB (n := s.kind) (a := 0) (b := 7) (zB s.rep ++ (zB s.n ++ (vecB s.seen 7 ++ (zB s.reds ++ (textB s.name ++ (textB s.user ++ (zB s.ar ++ (zB s.an ++ (zB s.br ++ (zB s.bn ++ (zB s.amount ++ zB s.funds))))))))))) (by omega) (by omega)
  have e2 := rdDot_zB (r := s.rep) (n := s.n) (vecB s.seen 7 ++ (zB s.reds ++ (textB s.name ++ (textB s.user ++ (zB s.ar ++ (zB s.an ++ (zB s.br ++ (zB s.bn ++ (zB s.amount ++ zB s.funds))))))))) (by have := hs.r; omega) (by have := hs.n; omega)
  have e4 := rdN_zB (n := s.reds) (a := 0) (b := 1000) (textB s.name ++ (textB s.user ++ (zB s.ar ++ (zB s.an ++ (zB s.br ++ (zB s.bn ++ (zB s.amount ++ zB s.funds))))))) (by have := hs.reds; omega) (by have := hs.reds; omega)
  have e5 := rdText_textB (s := s.name) (lim := 80) (textB s.user ++ (zB s.ar ++ (zB s.an ++ (zB s.br ++ (zB s.bn ++ (zB s.amount ++ zB s.funds)))))) (by omega) (by omega)
  have e6 := rdText_textB (s := s.user) (lim := 80) (zB s.ar ++ (zB s.an ++ (zB s.br ++ (zB s.bn ++ (zB s.amount ++ zB s.funds))))) (by omega) (by omega)
  have e7 := rdDot_zB (r := s.ar) (n := s.an) (zB s.br ++ (zB s.bn ++ (zB s.amount ++ zB s.funds))) (by have := hs.ar; omega) (by have := hs.an; omega)
  have e8 := rdDot_zB (r := s.br) (n := s.bn) (zB s.amount ++ zB s.funds) (by have := hs.br; omega) (by have := hs.bn; omega)
  have e9 := rdN_zB (n := s.amount) (a := 0) (b := 1000000000) (zB s.funds) (by have := hs.am; omega) (by have := hs.am; omega)
  have e10 := rdN_zB (n := s.funds) (a := 0) (b := 1125899906842624) [] (by have := hs.fu; omega) (by have := hs.fu; omega)
  rw [List.append_nil] at e10
  refine ⟨{ s with seen := v' }, ?_, ?_⟩
  · have hg' : goodT (getRow s.kind (s.rep, s.n) v' s.reds s.name s.user (s.ar, s.an) (s.br, s.bn) s.amount s.funds) = true := by
      have := good_seen (s := s) hv2
      rw [hg] at this; exact this
    simp only [getSt, putB, e1, e2, hv1, e4, e5, e6, e7, e8, e9, e10, Option.bind_some, List.length_nil, hg', and_self, if_true]
    rfl
  · simp only [stcells, vcells, hv2 0 (by omega), hv2 1 (by omega), hv2 2 (by omega), hv2 3 (by omega), hv2 4 (by omega), hv2 5 (by omega), hv2 6 (by omega)]
/-! ### Awake -/
theorem s_stp (s : ST) : Ctr Tryz.prog F_rostrumlaw25_stp [.agg (stcells s)] [] (fun r H => r = .agg (stcells s) ∧ H = []) := by
  refine i_rostrumlaw25_stp.spec follows ?_
  exact VRet.mk [] (.agg (stcells s)) [] ⟨rfl, rfl, rfl⟩ ⟨rfl, rfl⟩
theorem s_cal (c : CT) : Ctr Tryz.prog F_rostrumlaw25_cal [.agg (cacells c)] [] (fun r H => r = .agg (cacells c) ∧ H = []) := by
  refine i_rostrumlaw25_cal.spec follows ?_
  exact VRet.mk [] (.agg (cacells c)) [] ⟨rfl, rfl, rfl⟩ ⟨rfl, rfl⟩
def longT (s : ST) : Bool := decide ((100 : Int) < s.name.size) || decide ((100 : Int) < s.user.size)
theorem s_long (s : ST) : Ctr Tryz.prog F_rostrumlaw25_long [.agg (stcells s)] [] (fun x H => x = bv (longT s) ∧ H = []) := by
  have fin : ∀ (b : Bool) (l : List SO), b = longT s → VRet 0 (bv b) l (fun x H => x = bv (longT s) ∧ H = []) := by
    rintro b l rfl
    exact VRet.mk [] _ [] ⟨rfl, rfl, rfl⟩ ⟨rfl, rfl⟩
  refine i_rostrumlaw25_long.spec follows ?_
  refine And.intro (fun h => ?_) (fun h => ?_)
  · exact fin _ _ (by rw [longT, show decide ((100 : Int) < s.name.size) = false from h]; rfl)
  · exact fin _ _ (by rw [longT, show decide ((100 : Int) < s.name.size) = true from h]; rfl)
theorem long_not {s : ST} (h : longT s = false) : s.name.size ≤ 100 ∧ s.user.size ≤ 100 := by
  simp only [longT, Bool.or_eq_false_iff, decide_eq_false_iff_not] at h
  omega
abbrev tann : ByteArray := ByteArray.mk #[97, 110, 110]
def caA : CT := ⟨2, es, tann, 0, 1, 0, 0, 5⟩
def caB : CT := ⟨5, es, tann, 0, 0, 0, 0, 0⟩
theorem bb_self (a : ByteArray) : (a == a) = true := by
  cases a with | mk x => exact beq_self_eq_true x
theorem g1 : makeE HL.new caA (0, 1) = 4 := by decide +kernel
theorem g2 : makeE HL.new caB (0, 1) = 0 ∧ goodT (makeS HL.new caB (0, 1)) = true := by decide +kernel
theorem row0 : RowG stcl 19 [] 0 0 ([] : List ST) := ⟨Nat.le_refl _, by simp, by simp⟩
set_option maxHeartbeats 1000000 in
theorem s_awake (h : Nat → Option Obj) (hu : Uni h) (hc : CaseH h) : Ctr Tryz.prog F_rostrumlaw25_awake [] [.heap h] (fun r H => r = bv true ∧ H = [.heap h]) := by
  have hN : makeN HL.new caB (0, 1) = makeS HL.new caB (0, 1) := by rw [makeN, g2.1]; rfl
  have hM := s_Make h hu hc HL.new 0 HI.new (by decide) [] 0 0 caB (0, 1) (by decide) (by decide)
  rw [hN, g2.1] at hM
  have hA := s_Make h hu hc HL.new 0 HI.new (by decide) [] 0 0 caA (0, 1) (by decide) (by decide)
  rw [g1] at hA
  have hP := s_gen_Put h hu (makeS HL.new caB (0, 1)) (by decide) (by decide)
  have hrt := get_put_rt g2.2 (by decide) (by decide)
  obtain ⟨s', hs1, hs2⟩ := hrt
  have hgp : genP (makeS HL.new caB (0, 1)) = putB (makeS HL.new caB (0, 1)) := by rw [genP, g2.2]; rfl
  have hsm := good_sm g2.2 (by decide) (by decide)
  rw [hgp] at hP
  refine i_rostrumlaw25_awake.spec follows ?_
  refine VCall.mk [] s_New ⟨rfl, rfl, rfl⟩ ?_
  rintro _ _ ⟨rfl, rfl⟩
  refine VCall.mk [1, 2, 3, 4, 5, 6, 0] hA ⟨rfl, rfl, rfl⟩ ?_
  rintro _ _ ⟨rfl, rfl⟩
  refine VCall.mk [] s_New ⟨rfl, rfl, rfl⟩ ?_
  rintro _ _ ⟨rfl, rfl⟩
  refine VCall.mk [8, 9, 10, 11, 12, 13, 0] hM ⟨rfl, rfl, rfl⟩ ?_
  rintro _ _ ⟨rfl, rfl⟩
  refine VCall.mk [0] hP ⟨rfl, rfl, rfl⟩ ?_
  rintro _ _ ⟨o, c, ys, rfl, rfl, hb⟩
  have hG := s_gen_Get h hu (putB (makeS HL.new caB (0, 1))) ys T_uint8 o c hb (putB_byt _) (Nat.le_trans (putB_len hsm) (by decide))
  rw [hs1, getV] at hG
  simp only [Option.getD_some, hs2, Option.isSome_some, cond_true] at hG
  refine VCall.mk [15, 0] hG ⟨rfl, rfl, rfl⟩ ?_
  rintro _ _ ⟨rfl, rfl⟩
  refine And.intro (fun _ => ?_) (fun k => absurd k (by decide))
  refine And.intro (fun _ => ?_) (fun k => absurd k (by decide))
  refine And.intro (fun _ => ?_) (fun k => absurd k (by decide +kernel))
  refine And.intro (fun _ => ?_) (fun k => absurd k (by decide))
  refine VRet.mk [0] (bv _) [.heap h] ⟨rfl, rfl, rfl⟩ ⟨?_, rfl⟩
  show bv _ = bv _
  simp [bb_self]
end Go.Proofs

namespace Go.Proofs
open Go Go.V Go.Lib
set_option maxRecDepth 100000
set_option linter.unusedVariables false

def RowsIs {α : Type} (cl : α → List Value) (k : Nat) (h : Nat → Option Obj) (v : Value) (L : List α) : Prop := ((∃ a c, v = .slice a 0 c) ∧ L = []) ∨
  ∃ (b o c : Nat) (xs : List Value) (e : TypeId) (fr : Nat × Nat), v = .slice (some ⟨b, o, none⟩) L.length c ∧ h b = some (.cells xs.toArray e fr) ∧ ∀ i (hi : i < L.length), V.cut xs (o + i * k) k = some (cl L[i])
theorem RowsIs.shape {α : Type} {cl : α → List Value} {k : Nat} {h : Nat → Option Obj} {v : Value} {L : List α} (hv : RowsIs cl k h v L) : ∃ a c, v = .slice a L.length c := by
  rcases hv with ⟨⟨a, c, rfl⟩, rfl⟩ | ⟨b, o, c, xs, e, fr, rfl, _⟩
  · exact ⟨a, c, rfl⟩
  · exact ⟨_, c, rfl⟩
theorem RowsIs.at {α : Type} {cl : α → List Value} {k : Nat} {h : Nat → Option Obj} {a : Option Addr} {n c : Nat} {L : List α} (hv : RowsIs cl k h (.slice a n c) L) {i : Nat} (hi : i < L.length) :
    ∃ (b o : Nat) (xs : List Value) (e : TypeId) (fr : Nat × Nat), a = some ⟨b, o, none⟩ ∧ h b = some (.cells xs.toArray e fr) ∧ ∀ j (hj : j < L.length), V.cut xs (o + j * k) k = some (cl L[j]) := by
  rcases hv with ⟨h1, rfl⟩ | ⟨b, o, c, xs, e, fr, h1, h2, h3⟩
  · simp at hi
  · cases h1
    exact ⟨b, o, xs, e, fr, rfl, h2, h3⟩
theorem RowsIs.pos {α : Type} {cl : α → List Value} {k : Nat} {h : Nat → Option Obj} {a : Option Addr} {n c : Nat} {L : List α} (hv : RowsIs cl k h (.slice a n c) L) :
    ∃ (b o : Nat) (xs : List Value) (e : TypeId) (fr : Nat × Nat), 0 < L.length → a = some ⟨b, o, none⟩ ∧ h b = some (.cells xs.toArray e fr) ∧ ∀ j (hj : j < L.length), V.cut xs (o + j * k) k = some (cl L[j]) := by
  by_cases h0 : 0 < L.length
  · obtain ⟨b, o, xs, e, fr, h1⟩ := hv.at h0
    exact ⟨b, o, xs, e, fr, fun _ => h1⟩
  · exact ⟨0, 0, [], 0, (0, 0), fun h1 => absurd h1 h0⟩
theorem do_good {x : HL} {s : ST} (he : doE x s = 0) : goodT s = true := by
  unfold doE at he
  cases hg : goodT s with
  | true => rfl
  | false => rw [hg] at he; exact absurd he (by simp)
/-! ### Houses of short steps -/
structure SI (x : HL) : Prop where
  b : ∀ e, e ∈ x.bs → Sm e.2.1
  r : ∀ s, s ∈ x.red → Sm s
theorem SI.new : SI HL.new := ⟨by simp [HL.new], by simp [HL.new]⟩
theorem SI.at {x : HL} (h : SI x) (d : Int × Int) : Sm (stAt x d) := by
  unfold stAt
  cases hq : MP.get x.bs d with
  | none => exact sm_zero
  | some s =>
    obtain ⟨e, h1, h2, h3⟩ := mem_of_get hq
    have := h.b e h1
    rw [h3] at this; exact this
theorem SI.blue {x : HL} (h : SI x) {s : ST} (z1 : s.name.size ≤ 100) (z2 : s.user.size ≤ 100) : SI (blueN x s) := by
  by_cases he : blueE x s = 0
  · rw [blueN_0 he]
    refine ⟨fun e h1 => ?_, h.r⟩
    rcases mem_put h1 with h2 | ⟨_, h2⟩
    · exact h.b e h2
    · rw [h2]; exact good_sm (blueE_0 he).1 (Nat.le_trans z1 (by decide)) (Nat.le_trans z2 (by decide))
  · rw [blueN_1 he]; exact h
theorem doN_bs (x : HL) (s : ST) : (doN x s).bs = x.bs ∧ (doN x s).red = x.red ++ [s] := by
  unfold doN
  cases decide (s.kind = 5)
  · cases decide (s.kind = 6)
    · cases mayEnd x s <;> exact ⟨rfl, rfl⟩
    · cases decide (s.amount ≤ s.funds - drawnF x (foldB s.user)) <;> exact ⟨rfl, rfl⟩
  · exact ⟨rfl, rfl⟩
theorem SI.red {x : HL} (h : SI x) {s : ST} (he : doE x s = 0) (z1 : s.name.size ≤ 100) (z2 : s.user.size ≤ 100) : SI (doN x s) := by
  refine ⟨fun e h1 => h.b e (by rw [(doN_bs x s).1] at h1; exact h1), fun t h1 => ?_⟩
  rw [(doN_bs x s).2, List.mem_append, List.mem_singleton] at h1
  rcases h1 with h1 | h1
  · exact h.r t h1
  · rw [h1]; exact good_sm (do_good he) (Nat.le_trans z1 (by decide)) (Nat.le_trans z2 (by decide))
abbrev hoP1 (x : HL) (rx : List Value) (ro rc : Nat) : List SO := [.cells (vcells x.v ++ [.mp 2, .sl 6 ro x.red.length rc, .mp 3, .mp 4, .mp 5]) T_auct_House,
  .map (ents encD encST x.bs) x.bc, .map (ents encT encB x.us) x.uc, .map (ents encT encN x.ds) x.dc, .map (ents encD encO x.cs) x.cc, .arr rx T_auct_Step]
structure GX where
  i : Nat
  x : HL
  rx : List Value
  ro : Nat
  rc : Nat
structure GI (n : Nat) (y : GX) : Prop where
  hi : y.i ≤ n
  hx : HI y.x y.i
  hr : RowG stcl 19 y.rx y.ro y.rc y.x.red
  si : SI y.x
theorem GI.new {n : Nat} : GI n ⟨0, HL.new, [], 0, 0⟩ := ⟨Nat.zero_le _, HI.new, row0, SI.new⟩
theorem blue_red (x : HL) (s : ST) : (blueN x s).red = x.red := by unfold blueN; cases decide (blueE x s = 0) <;> rfl
end Go.Proofs

namespace Go.Proofs
open Go Go.V Go.Lib
set_option maxRecDepth 100000
set_option linter.unusedVariables false

/-! ### The document's own Make -/
def rmk0 (w : RH) (c : CT) (d : Int × Int) (f : Int) : ST := ⟨c.kind, d.1, d.2, w.v, w.R.length, c.name, c.user, c.ar, c.an, c.br, c.bn, c.amount, f⟩
def rmkS (w : RH) (c : CT) (d : Int × Int) : ST := rmk0 w c d (bif decide (c.kind = 6) then depT w c.user else 0)
def oneE (w : RH) (c : CT) : Int := bif !(findR w 1 (c.ar, c.an)).isSome then 4 else bif !openR w (c.ar, c.an) then 12 else bif decide (c.kind = 2) && !regF w (foldB c.user) then 4 else 0
def bidA (w : RH) (c : CT) : ST := (findR w 2 (c.br, c.bn)).getD zeroT'
def inD (b : Int × Int) (l : List (Int × Int)) : Bool := l.any fun e => decide (e.1 = b.1) && decide (e.2 = b.2)
def twoE (w : RH) (c : CT) : Int := bif !(findR w 2 (c.br, c.bn)).isSome || (!inD (c.br, c.bn) (bidD w ((bidA w c).ar, (bidA w c).an)) || !(findR w 1 ((bidA w c).ar, (bidA w c).an)).isSome) then 4 else bif !openR w ((bidA w c).ar, (bidA w c).an) then 12 else 0
def rwhyE (w : RH) (c : CT) : Int :=
  bif decide (c.kind = 2) || decide (c.kind = 7) then oneE w c else
  bif decide (c.kind = 3) then twoE w c else
  bif decide (c.kind = 4) || decide (c.kind = 6) then (bif !regF w (foldB c.user) then 4 else bif decide (c.kind = 6) && decide (depT w c.user - wdS (foldB c.user) w.sp w.su < c.amount) then 11 else 0) else
  bif decide (c.kind = 5) && regF w (foldB c.user) then 5 else 0
def rmkE (w : RH) (c : CT) (d : Int × Int) : Int := bif goodT (rmkS w c d) then rwhyE w c else 1
def rmkN (w : RH) (c : CT) (d : Int × Int) : ST := bif decide (rmkE w c d = 0) then rmkS w c d else zeroT'
structure RTX where
  i : Nat
  b : Bool
set_option maxHeartbeats 4000000 in
theorem s_refMake (h : Nat → Option Obj) (hu : Uni h) (hc : CaseH h) (w : RH) (q : RQ) (hk : RK w q) (hd : RHD w) (hs : ∀ n, n ∈ w.su → 0 ≤ n ∧ n ≤ 1000000000) (c : CT) (d : Int × Int) (z1 : c.name.size ≤ 1000) (z2 : c.user.size ≤ 1000) :
    Ctr Tryz.prog F_rostrumref24_Make [.ptr 0 0, .agg (cacells c), .agg (dcells d.1 d.2)] (hoR w q ++ [.heap h]) (fun r H => r = .tup [.agg (stcells (rmkN w c d)), iv (rmkE w c d)] ∧ H = hoR w q ++ [.heap h]) := by
  have fin : ∀ (s : ST) (e : Int) (l : List SO), rmkN w c d = s → rmkE w c d = e → VRet 8 (.tup [.agg (stcells s), iv e]) (hoR w q ++ .heap h :: l) (fun r H => r = .tup [.agg (stcells (rmkN w c d)), iv (rmkE w c d)] ∧ H = hoR w q ++ [.heap h]) := by
    rintro s e l rfl rfl
    exact VRet.mk [0, 1, 2, 3, 4, 5, 6, 7] (.tup [.agg (stcells (rmkN w c d)), iv (rmkE w c d)]) (hoR w q ++ [.heap h]) ⟨rfl, rfl, rfl⟩ ⟨rfl, rfl⟩
  refine i_rostrumref24_Make.spec follows ?_
  repeat refine And.intro rfl ?_
  refine And.intro (fun k6 => ?_) (fun k6 => ?_)
  · have k6 : c.kind = 6 := of_decide_eq_true k6
    refine VCall.mk [0, 1, 2, 3, 4, 5, 6, 7] (s_refDeposited h hc w q hk hd c.user (Nat.le_trans z2 (by decide))) ⟨rfl, rfl, rfl⟩ ?_
    rintro _ _ ⟨rfl, rfl⟩
    have hS : rmkS w c d = rmk0 w c d (depT w c.user) := by rw [rmkS, decide_eq_true k6]; rfl
    refine VCall.mk [7] (s_refGood h hu (rmk0 w c d (depT w c.user)) z1 z2) ⟨rfl, rfl, rfl⟩ ?_
    rintro _ _ ⟨rfl, rfl⟩
    refine And.intro (fun kg => ?_) (fun kg => ?_)
    · have kg := nT' kg
      exact fin zeroT' 1 _ (by rw [rmkN, rmkE, hS, kg]; rfl) (by rw [rmkE, hS, kg]; rfl)
    have kg := nF' kg
    have hE : rmkE w c d = rwhyE w c := by rw [rmkE, hS, kg]; rfl
    have fin0 : ∀ (l : List SO), rwhyE w c = 0 → VRet 8 (.tup [.agg (stcells (rmk0 w c d (depT w c.user))), iv 0]) (hoR w q ++ .heap h :: l) (fun r H => r = .tup [.agg (stcells (rmkN w c d)), iv (rmkE w c d)] ∧ H = hoR w q ++ [.heap h]) :=
      fun l e => fin (rmk0 w c d (depT w c.user)) 0 l (by rw [rmkN, hE, e, hS]; rfl) (hE.trans e)
    have finE : ∀ (e : Int) (l : List SO), rwhyE w c = e → e ≠ 0 → VRet 8 (.tup [.agg (stcells zeroT'), iv e]) (hoR w q ++ .heap h :: l) (fun r H => r = .tup [.agg (stcells (rmkN w c d)), iv (rmkE w c d)] ∧ H = hoR w q ++ [.heap h]) :=
      fun e l h1 h2 => fin zeroT' e l (by rw [rmkN, hE, h1, decide_eq_false h2]; rfl) (hE.trans h1)
    have n2 : decide (c.kind = 2) = false := by rw [k6]; rfl
    have n7 : decide (c.kind = 7) = false := by rw [k6]; rfl
    have n3 : decide (c.kind = 3) = false := by rw [k6]; rfl
    have n4 : decide (c.kind = 4) = false := by rw [k6]; rfl
    have y6 : decide (c.kind = 6) = true := decide_eq_true k6
    refine And.intro (fun k => absurd (k.symm.trans n2) (by decide)) (fun _ => ?_)
    refine And.intro (fun k => absurd (k.symm.trans n7) (by decide)) (fun _ => ?_)
    refine And.intro (fun k => absurd (k.symm.trans n3) (by decide)) (fun _ => ?_)
    refine And.intro (fun k => absurd (k.symm.trans n4) (by decide)) (fun _ => ?_)
    refine And.intro (fun _ => ?_) (fun k => absurd (k.symm.trans y6) (by decide))
    refine VCall.mk [0, 1, 2, 3, 4, 5, 6, 7] (s_Registered h hc w q hk c.user (Nat.le_trans z2 (by decide))) ⟨rfl, rfl, rfl⟩ ?_
    rintro _ _ ⟨rfl, rfl⟩
    refine And.intro (fun t => ?_) (fun t => ?_)
    · have t := nT' t
      have hE0 : rwhyE w c = 4 := by rw [rwhyE, n2, n7, n3, n4, y6, t]; rfl
      refine And.intro (fun _ => ?_) (fun k => absurd k (by decide))
      exact finE _ _ hE0 (by decide)
    have t := nF' t
    refine And.intro (fun _ => ?_) (fun k => absurd (k.symm.trans y6) (by decide))
    refine VCall.mk [0, 1, 2, 3, 4, 5, 6, 7] (s_refBalance h hc w q hk hd hs c.user (Nat.le_trans z2 (by decide))) ⟨rfl, rfl, rfl⟩ ?_
    rintro _ _ ⟨rfl, rfl⟩
    refine And.intro rfl ?_
    refine And.intro (fun t2 => ?_) (fun t2 => ?_)
    · have t2 : decide (depT w c.user - wdS (foldB c.user) w.sp w.su < c.amount) = true := t2
      have hE0 : rwhyE w c = 11 := by rw [rwhyE, n2, n7, n3, n4, y6, t, t2]; rfl
      refine And.intro (fun _ => ?_) (fun k => absurd k (by decide))
      exact finE _ _ hE0 (by decide)
    · have t2 : decide (depT w c.user - wdS (foldB c.user) w.sp w.su < c.amount) = false := t2
      have hE0 : rwhyE w c = 0 := by rw [rwhyE, n2, n7, n3, n4, y6, t, t2]; rfl
      refine And.intro (fun k => absurd k (by decide)) (fun _ => ?_)
      exact fin0 _ hE0
  · have n6 : decide (c.kind = 6) = false := k6
    have hS : rmkS w c d = rmk0 w c d 0 := by rw [rmkS, n6]; rfl
    refine VCall.mk [7] (s_refGood h hu (rmk0 w c d 0) z1 z2) ⟨rfl, rfl, rfl⟩ ?_
    rintro _ _ ⟨rfl, rfl⟩
    refine And.intro (fun kg => ?_) (fun kg => ?_)
    · have kg := nT' kg
      exact fin zeroT' 1 _ (by rw [rmkN, rmkE, hS, kg]; rfl) (by rw [rmkE, hS, kg]; rfl)
    have kg := nF' kg
    have hE : rmkE w c d = rwhyE w c := by rw [rmkE, hS, kg]; rfl
    have fin0 : ∀ (l : List SO), rwhyE w c = 0 → VRet 8 (.tup [.agg (stcells (rmk0 w c d 0)), iv 0]) (hoR w q ++ .heap h :: l) (fun r H => r = .tup [.agg (stcells (rmkN w c d)), iv (rmkE w c d)] ∧ H = hoR w q ++ [.heap h]) :=
      fun l e => fin (rmk0 w c d 0) 0 l (by rw [rmkN, hE, e, hS]; rfl) (hE.trans e)
    have finE : ∀ (e : Int) (l : List SO), rwhyE w c = e → e ≠ 0 → VRet 8 (.tup [.agg (stcells zeroT'), iv e]) (hoR w q ++ .heap h :: l) (fun r H => r = .tup [.agg (stcells (rmkN w c d)), iv (rmkE w c d)] ∧ H = hoR w q ++ [.heap h]) :=
      fun e l h1 h2 => fin zeroT' e l (by rw [rmkN, hE, h1, decide_eq_false h2]; rfl) (hE.trans h1)
    refine And.intro (fun k2 => ?_) (fun n2 => ?_)
    · have k2 : decide (c.kind = 2) = true := k2
      have hor : (decide (c.kind = 2) || decide (c.kind = 7)) = true := by rw [k2]; rfl
      refine And.intro (fun _ => ?_) (fun k => absurd (k.symm.trans k2) (by decide))
      refine VCall.mk [0, 1, 2, 3, 4, 5, 6] (s_find w q hk 1 (c.ar, c.an)) ⟨rfl, rfl, rfl⟩ ?_
      rintro _ _ ⟨rfl, rfl⟩
      refine And.intro (fun t1 => ?_) (fun t1 => ?_)
      · have t1 := nT' t1
        have hE0 : rwhyE w c = 4 := by rw [rwhyE, hor, cond_true, oneE, t1]; rfl
        refine And.intro (fun _ => ?_) (fun k => absurd k (by decide))
        exact finE _ _ hE0 (by decide)
      have t1 := nF' t1
      refine VCall.mk [0, 1, 2, 3, 4, 5, 6] (s_refOpen w q hk (c.ar, c.an)) ⟨rfl, rfl, rfl⟩ ?_
      rintro _ _ ⟨rfl, rfl⟩
      refine And.intro (fun t2 => ?_) (fun t2 => ?_)
      · have t2 := nT' t2
        have hE0 : rwhyE w c = 12 := by rw [rwhyE, hor, cond_true, oneE, t1, t2]; rfl
        refine And.intro (fun _ => ?_) (fun k => absurd k (by decide))
        exact finE _ _ hE0 (by decide)
      have t2 := nF' t2
      refine And.intro (fun t3 => ?_) (fun t3 => ?_)
      · have t3 : decide (c.kind = 2) = true := t3
        refine VCall.mk [0, 1, 2, 3, 4, 5, 6, 7] (s_Registered h hc w q hk c.user (Nat.le_trans z2 (by decide))) ⟨rfl, rfl, rfl⟩ ?_
        rintro _ _ ⟨rfl, rfl⟩
        refine And.intro (fun t4 => ?_) (fun t4 => ?_)
        · have t4 := nT' t4
          have hE0 : rwhyE w c = 4 := by rw [rwhyE, hor, cond_true, oneE, t1, t2, t3, t4]; rfl
          refine And.intro (fun _ => ?_) (fun k => absurd k (by decide))
          exact finE _ _ hE0 (by decide)
        · have t4 := nF' t4
          have hE0 : rwhyE w c = 0 := by rw [rwhyE, hor, cond_true, oneE, t1, t2, t3, t4]; rfl
          refine And.intro (fun k => absurd k (by decide)) (fun _ => ?_)
          exact fin0 _ hE0
      · have t3 : decide (c.kind = 2) = false := t3
        have hE0 : rwhyE w c = 0 := by rw [rwhyE, hor, cond_true, oneE, t1, t2, t3]; rfl
        refine And.intro (fun k => absurd k (by decide)) (fun _ => ?_)
        exact fin0 _ hE0
    have n2 : decide (c.kind = 2) = false := n2
    refine And.intro (fun k7 => ?_) (fun n7 => ?_)
    · have k7 : decide (c.kind = 7) = true := k7
      have hor : (decide (c.kind = 2) || decide (c.kind = 7)) = true := by rw [k7]; simp
      refine VCall.mk [0, 1, 2, 3, 4, 5, 6] (s_find w q hk 1 (c.ar, c.an)) ⟨rfl, rfl, rfl⟩ ?_
      rintro _ _ ⟨rfl, rfl⟩
      refine And.intro (fun t1 => ?_) (fun t1 => ?_)
      · have t1 := nT' t1
        have hE0 : rwhyE w c = 4 := by rw [rwhyE, hor, cond_true, oneE, t1]; rfl
        refine And.intro (fun _ => ?_) (fun k => absurd k (by decide))
        exact finE _ _ hE0 (by decide)
      have t1 := nF' t1
      refine VCall.mk [0, 1, 2, 3, 4, 5, 6] (s_refOpen w q hk (c.ar, c.an)) ⟨rfl, rfl, rfl⟩ ?_
      rintro _ _ ⟨rfl, rfl⟩
      refine And.intro (fun t2 => ?_) (fun t2 => ?_)
      · have t2 := nT' t2
        have hE0 : rwhyE w c = 12 := by rw [rwhyE, hor, cond_true, oneE, t1, t2]; rfl
        refine And.intro (fun _ => ?_) (fun k => absurd k (by decide))
        exact finE _ _ hE0 (by decide)
      have t2 := nF' t2
      refine And.intro (fun t3 => ?_) (fun t3 => ?_)
      · have t3 : decide (c.kind = 2) = true := t3
        refine VCall.mk [0, 1, 2, 3, 4, 5, 6, 7] (s_Registered h hc w q hk c.user (Nat.le_trans z2 (by decide))) ⟨rfl, rfl, rfl⟩ ?_
        rintro _ _ ⟨rfl, rfl⟩
        refine And.intro (fun t4 => ?_) (fun t4 => ?_)
        · have t4 := nT' t4
          have hE0 : rwhyE w c = 4 := by rw [rwhyE, hor, cond_true, oneE, t1, t2, t3, t4]; rfl
          refine And.intro (fun _ => ?_) (fun k => absurd k (by decide))
          exact finE _ _ hE0 (by decide)
        · have t4 := nF' t4
          have hE0 : rwhyE w c = 0 := by rw [rwhyE, hor, cond_true, oneE, t1, t2, t3, t4]; rfl
          refine And.intro (fun k => absurd k (by decide)) (fun _ => ?_)
          exact fin0 _ hE0
      · have t3 : decide (c.kind = 2) = false := t3
        have hE0 : rwhyE w c = 0 := by rw [rwhyE, hor, cond_true, oneE, t1, t2, t3]; rfl
        refine And.intro (fun k => absurd k (by decide)) (fun _ => ?_)
        exact fin0 _ hE0
    have n7 : decide (c.kind = 7) = false := n7
    refine And.intro (fun k3 => ?_) (fun n3 => ?_)
    · have k3 : decide (c.kind = 3) = true := k3
      have hb3 : rwhyE w c = twoE w c := by rw [rwhyE, n2, n7, k3]; rfl
      refine VCall.mk [0, 1, 2, 3, 4, 5, 6] (s_find w q hk 2 (c.br, c.bn)) ⟨rfl, rfl, rfl⟩ ?_
      rintro _ _ ⟨rfl, rfl⟩
      refine VCall.mk [0, 1, 2, 3, 4, 5, 6] (s_refBidD w q hk ((bidA w c).ar, (bidA w c).an)) ⟨rfl, rfl, rfl⟩ ?_
      rintro _ _ ⟨xs, o, cc, rfl, rfl, hr⟩
      have hBl : (bidD w ((bidA w c).ar, (bidA w c).an)).length ≤ 1000 := by rw [bidD, List.length_map]; exact Nat.le_trans (List.length_filter_le _ _) hk.ll
      refine VLoop.mk RTX (fun x => [(0, .ptr 0 0), (4, .ptr 8 0), (6, .ptr 10 0), (8, .ptr 11 0), (9, iv 0), (12, .ptr 12 0), (13, bv (findR w 2 (c.br, c.bn)).isSome), (14, bv x.b), (15, .sl 13 o (bidD w ((bidA w c).ar, (bidA w c).an)).length cc), (16, iv x.i)])
        (fun _ => hoR w q ++ [.heap h, .cells (cacells c) T_rostrumref24_Call, .cells (dcells d.1 d.2) T_api_Dot, .cells (stcells zeroT') T_rostrumref24_Step, .cells (stcells (rmk0 w c d 0)) T_rostrumref24_Step, .cells (stcells (bidA w c)) T_rostrumref24_Step, .arr xs T_api_Dot])
        (fun x => x.i ≤ (bidD w ((bidA w c).ar, (bidA w c).an)).length ∧ x.b = inD (c.br, c.bn) ((bidD w ((bidA w c).ar, (bidA w c).an)).take x.i)) (fun x => (bidD w ((bidA w c).ar, (bidA w c).an)).length - x.i) ⟨0, false⟩ [0, 1, 2, 3, 4, 5, 6, 7, 8, 9, 10, 11, 12, 13]
        ⟨⟨Nat.zero_le _, rfl⟩, rfl, rfl, rfl⟩ ?_
      rintro ⟨i, b⟩ ⟨hi, hb⟩ g
      simp only at hi hb
      refine And.intro (fun t1 => ?_) (fun t1 => ?_)
      · have t1 : (i : Int) < ((bidD w ((bidA w c).ar, (bidA w c).an)).length : Nat) := of_decide_eq_true t1
        have hil : i < (bidD w ((bidA w c).ar, (bidA w c).an)).length := Int.ofNat_lt.1 t1
        have hwi : IntKind.i64.wrap ((i : Int) + 1) = ((i + 1 : Nat) : Int) := wrapI hil hBl
        have hx := hr.cut (fun _ => rfl) hil
        have hat : inD (c.br, c.bn) ((bidD w ((bidA w c).ar, (bidA w c).an)).take (i + 1)) = (inD (c.br, c.bn) ((bidD w ((bidA w c).ar, (bidA w c).an)).take i) || (decide ((bidD w ((bidA w c).ar, (bidA w c).an))[i].1 = c.br) && decide ((bidD w ((bidA w c).ar, (bidA w c).an))[i].2 = c.bn))) := anyTake (p := fun e : Int × Int => decide (e.1 = c.br) && decide (e.2 = c.bn)) hil
        refine And.intro (fun j0 => ?_) (fun j0 => ?_)
        · have j0 : b = false := j0
          refine And.intro ⟨Int.natCast_nonneg i, t1, RowG.room hr⟩ (Exists.intro _ (And.intro (by rw [Int.toNat_natCast]; exact hx) ?_))
          refine Exists.intro _ (And.intro hwi ?_)
          exact Exists.intro ⟨i + 1, decide ((bidD w ((bidA w c).ar, (bidA w c).an))[i].1 = c.br) && decide ((bidD w ((bidA w c).ar, (bidA w c).an))[i].2 = c.bn)⟩ (Exists.intro [0, 1, 2, 3, 4, 5, 6, 7, 8, 9, 10, 11, 12, 13] (And.intro ⟨⟨hil, by simp only; rw [hat, ← hb, j0]; rfl⟩, subLt hil⟩ ⟨rfl, rfl, rfl⟩))
        · have j0 : b = true := j0
          refine Exists.intro _ (And.intro hwi ?_)
          exact Exists.intro ⟨i + 1, true⟩ (Exists.intro [0, 1, 2, 3, 4, 5, 6, 7, 8, 9, 10, 11, 12, 13] (And.intro ⟨⟨hil, by simp only; rw [hat, ← hb, j0]; rfl⟩, subLt hil⟩ ⟨rfl, rfl, rfl⟩))
      · have hil : i = (bidD w ((bidA w c).ar, (bidA w c).an)).length := Nat.le_antisymm hi (Int.ofNat_le.1 (Int.not_lt.1 (of_decide_eq_false t1)))
        rw [hil, List.take_length] at hb
        refine VCall.mk [0, 1, 2, 3, 4, 5, 6] (s_find w q hk 1 ((bidA w c).ar, (bidA w c).an)) ⟨rfl, rfl, rfl⟩ ?_
        rintro _ _ ⟨rfl, rfl⟩
        refine And.intro (fun t2 => ?_) (fun t2 => ?_)
        rotate_left 1
        · have t2 := nT' t2
          have hE0 : rwhyE w c = 4 := by rw [hb3, twoE, t2]; rfl
          refine And.intro (fun _ => ?_) (fun k => absurd k (by decide))
          exact finE _ _ hE0 (by decide)
        have t2 := nF' t2
        refine And.intro (fun t3 => ?_) (fun t3 => ?_)
        rotate_left 1
        · have t3 : b = false := nT' t3
          have hE0 : rwhyE w c = 4 := by rw [hb3, twoE, t2, ← hb, t3]; rfl
          refine And.intro (fun _ => ?_) (fun k => absurd k (by decide))
          exact finE _ _ hE0 (by decide)
        have t3 : b = true := nF' t3
        refine And.intro (fun t4 => ?_) (fun t4 => ?_)
        · have t4 := nT' t4
          have hE0 : rwhyE w c = 4 := by rw [hb3, twoE, t2, ← hb, t3, t4]; rfl
          refine And.intro (fun _ => ?_) (fun k => absurd k (by decide))
          exact finE _ _ hE0 (by decide)
        have t4 := nF' t4
        refine VCall.mk [0, 1, 2, 3, 4, 5, 6] (s_refOpen w q hk ((bidA w c).ar, (bidA w c).an)) ⟨rfl, rfl, rfl⟩ ?_
        rintro _ _ ⟨rfl, rfl⟩
        refine And.intro (fun t5 => ?_) (fun t5 => ?_)
        · have t5 := nT' t5
          have hE0 : rwhyE w c = 12 := by rw [hb3, twoE, t2, ← hb, t3, t4, t5]; rfl
          refine And.intro (fun _ => ?_) (fun k => absurd k (by decide))
          exact finE _ _ hE0 (by decide)
        · have t5 := nF' t5
          have hE0 : rwhyE w c = 0 := by rw [hb3, twoE, t2, ← hb, t3, t4, t5]; rfl
          refine And.intro (fun k => absurd k (by decide)) (fun _ => ?_)
          exact fin0 _ hE0
    have n3 : decide (c.kind = 3) = false := n3
    refine And.intro (fun k4 => ?_) (fun n4 => ?_)
    · have k4 : decide (c.kind = 4) = true := k4
      refine And.intro (fun _ => ?_) (fun k => absurd (k.symm.trans k4) (by decide))
      refine VCall.mk [0, 1, 2, 3, 4, 5, 6, 7] (s_Registered h hc w q hk c.user (Nat.le_trans z2 (by decide))) ⟨rfl, rfl, rfl⟩ ?_
      rintro _ _ ⟨rfl, rfl⟩
      refine And.intro (fun t => ?_) (fun t => ?_)
      · have t := nT' t
        have hE0 : rwhyE w c = 4 := by rw [rwhyE, n2, n7, n3, k4, t]; rfl
        refine And.intro (fun _ => ?_) (fun k => absurd k (by decide))
        exact finE _ _ hE0 (by decide)
      have t := nF' t
      have hE0 : rwhyE w c = 0 := by rw [rwhyE, n2, n7, n3, k4, t, n6]; rfl
      refine And.intro (fun k => absurd (k.symm.trans n6) (by decide)) (fun _ => ?_)
      repeat refine And.intro rfl ?_
      refine And.intro (fun k => absurd k (by decide)) (fun _ => ?_)
      exact fin0 _ hE0
    have n4 : decide (c.kind = 4) = false := n4
    refine And.intro (fun k => absurd (k.symm.trans n6) (by decide)) (fun _ => ?_)
    refine And.intro (fun k5 => ?_) (fun n5 => ?_)
    · have k5 : decide (c.kind = 5) = true := k5
      refine VCall.mk [0, 1, 2, 3, 4, 5, 6, 7] (s_Registered h hc w q hk c.user (Nat.le_trans z2 (by decide))) ⟨rfl, rfl, rfl⟩ ?_
      rintro _ _ ⟨rfl, rfl⟩
      refine And.intro (fun t => ?_) (fun t => ?_)
      · have t : regF w (foldB c.user) = true := t
        have hE0 : rwhyE w c = 5 := by rw [rwhyE, n2, n7, n3, n4, n6, k5, t]; rfl
        refine And.intro (fun _ => ?_) (fun k => absurd k (by decide))
        exact finE _ _ hE0 (by decide)
      · have t : regF w (foldB c.user) = false := t
        have hE0 : rwhyE w c = 0 := by rw [rwhyE, n2, n7, n3, n4, n6, k5, t]; rfl
        refine And.intro (fun k => absurd k (by decide)) (fun _ => ?_)
        exact fin0 _ hE0
    have n5 : decide (c.kind = 5) = false := n5
    have hE0 : rwhyE w c = 0 := by rw [rwhyE, n2, n7, n3, n4, n6, n5]; rfl
    refine And.intro (fun k => absurd k (by decide)) (fun _ => ?_)
    exact fin0 _ hE0
end Go.Proofs

namespace Go.Proofs
open Go Go.V Go.Lib
set_option maxRecDepth 100000
set_option linter.unusedVariables false

theorem rhd_of {x : HL} {w : RH} {N : Nat} (hx : HI x N) (hs : Sim x w) : RHD w where
  lz := fun t ht => by
    obtain ⟨e, h1, rfl⟩ := (hs.mem hx t).1 ht
    exact (hx.be e h1).2.2.2.1
  la := fun t ht hk => by
    obtain ⟨e, h1, rfl⟩ := (hs.mem hx t).1 ht
    exact good_four (hx.be e h1).1 hk
theorem rhb_of {x : HL} {w : RH} {N : Nat} (hx : HI x N) (hs : Sim x w) : RHB w := ⟨hs.su, (rhd_of hx hs).lz⟩
structure PL (w : RH) (i : Nat) : Prop where
  l : w.L.length ≤ i
  r : w.R.length ≤ i
  u : w.us.length ≤ i
  p : w.sp.length ≤ i
  e : w.cl.length ≤ i
theorem PL.new : PL RH.new 0 := ⟨Nat.le_refl _, Nat.le_refl _, Nat.le_refl _, Nat.le_refl _, Nat.le_refl _⟩
theorem PL.mono {w : RH} {i : Nat} (h : PL w i) : PL w (i + 1) := ⟨Nat.le_succ_of_le h.l, Nat.le_succ_of_le h.r, Nat.le_succ_of_le h.u, Nat.le_succ_of_le h.p, Nat.le_succ_of_le h.e⟩
theorem PL.blue {w : RH} {i k : Nat} {s : ST} (h : PL w i) (hk : k ≤ w.L.length) : PL (wB w s k) (i + 1) :=
  ⟨by show (insL w.L s k).length ≤ i + 1; rw [insL_len hk]; have := h.l; omega, Nat.le_succ_of_le h.r, Nat.le_succ_of_le h.u, Nat.le_succ_of_le h.p, Nat.le_succ_of_le h.e⟩
theorem PL.did {w : RH} {i : Nat} {s : ST} (h : PL w i) : PL (w.did s) (i + 1) :=
  ⟨Nat.le_succ_of_le h.l, by show (w.R ++ [s]).length ≤ i + 1; have := h.r; simp; omega, Nat.le_succ_of_le h.u, Nat.le_succ_of_le h.p, Nat.le_succ_of_le h.e⟩
theorem PL.reg {w : RH} {i k : Nat} {s : ST} (h : PL w i) (hk : k ≤ w.us.length) : PL (w.reg s k) (i + 1) :=
  ⟨Nat.le_succ_of_le h.l, h.did.r, by show (insU w.us (foldB s.user) k).length ≤ i + 1; rw [insU_len hk]; have := h.u; omega, Nat.le_succ_of_le h.p, Nat.le_succ_of_le h.e⟩
theorem PL.pay {w : RH} {i : Nat} {s : ST} (h : PL w i) : PL (w.pay s) (i + 1) :=
  ⟨Nat.le_succ_of_le h.l, h.did.r, Nat.le_succ_of_le h.u, by show (w.sp ++ [foldB s.user]).length ≤ i + 1; have := h.p; simp; omega, Nat.le_succ_of_le h.e⟩
theorem PL.over {w : RH} {i : Nat} {s : ST} {b : Int} (h : PL w i) : PL (w.over s b) (i + 1) :=
  ⟨Nat.le_succ_of_le h.l, h.did.r, Nat.le_succ_of_le h.u, Nat.le_succ_of_le h.p, by show (w.cl ++ [((s.ar, s.an), outAt (liveR w s) b)]).length ≤ i + 1; have := h.e; simp; omega⟩
def RQ.new : RQ := ⟨⟨[], 0, 0⟩, ⟨[], 0, 0⟩, ⟨[], 0, 0⟩, ⟨[], 0, 0⟩, ⟨[], 0, 0⟩, ⟨[], 0, 0⟩⟩
theorem RK.new : RK RH.new RQ.new := ⟨RowG.nilS, RowG.nilS, RowG.nilS, RowG.nilS, RowG.nilS, RowG.nilS, Nat.zero_le _, Nat.zero_le _, Nat.zero_le _, Nat.zero_le _, rfl, Nat.zero_le _⟩
theorem lenB {k n i : Nat} (h1 : k ≤ n) (h2 : n ≤ i) (h3 : i < 40) : 0 + k + 1 + (n - k) ≤ 1000 := by omega
/-! ### The two makers -/
theorem reg_is {x : HL} {w : RH} (hs : Sim x w) (f : ByteArray) : regF w f = (MP.get x.us f).isSome := by
  apply Bool.eq_iff_iff.2
  rw [← hs.um]
  unfold regF
  rw [List.any_eq_true]
  constructor
  · rintro ⟨t, ht, e⟩
    rw [decide_eq_true_eq] at e
    subst e; exact ht
  · exact fun h => ⟨f, h, by simp⟩
theorem auc_mem {x : HL} {w : RH} {N : Nat} (hx : HI x N) (hs : Sim x w) (a : Int × Int) : decide (a ∈ aucF x) = (findR w 1 a).isSome := by
  apply Bool.eq_iff_iff.2
  rw [decide_eq_true_eq, ← auc_is hx hs, aucR, List.mem_map]
  unfold findR
  rw [List.find?_isSome]
  constructor
  · rintro ⟨t, ht, rfl⟩
    obtain ⟨h1, h2⟩ := List.mem_filter.1 ht
    refine ⟨t, h1, ?_⟩
    rw [decide_eq_true_eq] at h2
    simp [isD, dotS, h2]
  · rintro ⟨t, ht, h⟩
    simp only [isD, Bool.and_eq_true, decide_eq_true_eq] at h
    exact ⟨t, List.mem_filter.2 ⟨ht, by simp [h.2]⟩, by show (t.rep, t.n) = a; rw [h.1.1, h.1.2]⟩
theorem inD_iff {b : Int × Int} {l : List (Int × Int)} : inD b l = true ↔ b ∈ l := by
  unfold inD
  rw [List.any_eq_true]
  constructor
  · rintro ⟨e, he, h⟩
    simp only [Bool.and_eq_true, decide_eq_true_eq] at h
    have : e = b := Prod.ext h.1 h.2
    rw [← this]; exact he
  · exact fun h => ⟨b, h, by simp⟩
theorem two_is {x : HL} {w : RH} {N : Nat} (hx : HI x N) (hs : Sim x w) (c : CT) : twoE w c = canF x (c.br, c.bn) := by
  have hmem : ∀ d, (c.br, c.bn) ∈ bidsF x.bs d x.v → ∃ t, t ∈ w.L ∧ dotS t = (c.br, c.bn) ∧ t.kind = 2 ∧ (t.ar, t.an) = d := by
    intro d h
    rw [← bidD_is hx hs] at h
    obtain ⟨t, ht, e⟩ := List.mem_map.1 h
    obtain ⟨h1, h2⟩ := List.mem_filter.1 ht
    simp only [okR, bidR, Bool.and_eq_true, decide_eq_true_eq] at h2
    exact ⟨t, h1, e, h2.1.1, Prod.ext h2.1.2.1.1 h2.1.2.1.2⟩
  have hone : ∀ t t', t ∈ w.L → t' ∈ w.L → dotS t = dotS t' → t = t' := by
    intro t t' h1 h2 e
    have a1 := (hs.lm t).1 h1
    have a2 := (hs.lm t').1 h2
    rw [e, a2] at a1
    exact (Option.some.inj a1).symm
  cases hf : findR w 2 (c.br, c.bn) with
  | none =>
    have hno : ∀ d, (c.br, c.bn) ∉ bidsF x.bs d x.v := by
      intro d h
      obtain ⟨t, h1, h2, h3, _⟩ := hmem d h
      have h4 := List.find?_eq_none.1 hf t h1
      apply h4
      have e1 : t.rep = c.br := congrArg Prod.fst h2
      have e2 : t.n = c.bn := congrArg Prod.snd h2
      simp [isD, e1, e2, h3]
    have : (aucF x).find? (fun d => decide ((c.br, c.bn) ∈ bidsF x.bs d x.v)) = none := List.find?_eq_none.2 fun d _ => by simp [hno d]
    unfold canF
    rw [this, twoE, hf]; rfl
  | some t =>
    have ht := List.mem_of_find?_eq_some hf
    have hp := List.find?_some hf
    simp only [isD, Bool.and_eq_true, decide_eq_true_eq] at hp
    have htd : dotS t = (c.br, c.bn) := Prod.ext hp.1.1 hp.1.2
    have hb : bidA w c = t := by rw [bidA, hf]; rfl
    have hd : ∀ d, (c.br, c.bn) ∈ bidsF x.bs d x.v → d = (t.ar, t.an) := by
      intro d h
      obtain ⟨t', h1, h2, h3, h4⟩ := hmem d h
      have := hone t' t h1 ht (h2.trans htd.symm)
      subst this; exact h4.symm
    rw [twoE, hb, hf, bidD, bidD_is hx hs, hs.v, ← auc_mem hx hs, open_is hx hs]
    by_cases h1 : (c.br, c.bn) ∈ bidsF x.bs (t.ar, t.an) x.v
    · rw [inD_iff.2 h1]
      by_cases h2 : (t.ar, t.an) ∈ aucF x
      · have hfi : (aucF x).find? (fun d => decide ((c.br, c.bn) ∈ bidsF x.bs d x.v)) = some (t.ar, t.an) := by
          cases hq : (aucF x).find? (fun d => decide ((c.br, c.bn) ∈ bidsF x.bs d x.v)) with
          | none => exact absurd (decide_eq_true h1) (List.find?_eq_none.1 hq _ h2)
          | some d =>
            have := List.find?_some hq
            rw [decide_eq_true_eq] at this
            rw [hd d this]
        unfold canF
        rw [hfi]
        simp only [aucE]
        rw [decide_eq_true h2]
        cases openF x (t.ar, t.an) <;> rfl
      · have hfi : (aucF x).find? (fun d => decide ((c.br, c.bn) ∈ bidsF x.bs d x.v)) = none := List.find?_eq_none.2 fun d hda => by
          intro h
          rw [decide_eq_true_eq] at h
          rw [hd d h] at hda
          exact h2 hda
        unfold canF
        rw [hfi, decide_eq_false h2]; rfl
    · have hfi : (aucF x).find? (fun d => decide ((c.br, c.bn) ∈ bidsF x.bs d x.v)) = none := List.find?_eq_none.2 fun d hda => by
        intro h
        rw [decide_eq_true_eq] at h
        rw [hd d h] at h
        exact h1 h
      unfold canF
      rw [hfi, show inD (c.br, c.bn) (bidsF x.bs (t.ar, t.an) x.v) = false from Bool.eq_false_iff.2 fun e => h1 (inD_iff.1 e)]; rfl
theorem mkS_is {x : HL} {w : RH} {N : Nat} (hx : HI x N) (hs : Sim x w) (c : CT) (d : Int × Int) : rmkS w c d = makeS x c d := by
  rw [rmkS, makeS, dep_is hx hs, rmk0, mk0, hs.v, hs.r]
theorem one_auc {x : HL} {w : RH} {N : Nat} (hx : HI x N) (hs : Sim x w) (a : Int × Int) : (bif !(findR w 1 a).isSome then (4 : Int) else bif !openR w a then 12 else 0) = aucE x a := by
  rw [aucE, auc_mem hx hs, open_is hx hs]
  cases (findR w 1 a).isSome <;> cases openF x a <;> rfl
theorem why_is {x : HL} {w : RH} {N : Nat} (hx : HI x N) (hs : Sim x w) (c : CT) (d : Int × Int) : rwhyE w c = refF x (makeS x c d) := by
  have hr := reg_is hs (foldB c.user)
  have ha := one_auc hx hs (c.ar, c.an)
  have hu : usrE x (foldB c.user) = bif regF w (foldB c.user) then 0 else 4 := by rw [usrE, hr]
  have hm : refF x (makeS x c d) = bif decide (c.kind = 2) then (bif decide (aucE x (c.ar, c.an) = 0) then usrE x (foldB c.user) else aucE x (c.ar, c.an)) else
    bif decide (c.kind = 3) then canF x (c.br, c.bn) else
    bif decide (c.kind = 4) then usrE x (foldB c.user) else
    bif decide (c.kind = 5) then (bif decide (usrE x (foldB c.user) = 0) then 5 else 0) else
    bif decide (c.kind = 6) then (bif decide (usrE x (foldB c.user) = 0) then (bif decide (depF x c.user - drawnF x (foldB c.user) < c.amount) then 11 else 0) else usrE x (foldB c.user)) else
    bif decide (c.kind = 7) then aucE x (c.ar, c.an) else 0 := rfl
  rw [hm, rwhyE, two_is hx hs, dep_is hx hs, hs.wd, hu, ← ha, oneE]
  by_cases k2 : c.kind = 2
  · simp only [k2]
    cases (findR w 1 (c.ar, c.an)).isSome <;> cases openR w (c.ar, c.an) <;> cases regF w (foldB c.user) <;> rfl
  by_cases k7 : c.kind = 7
  · simp only [k7]
    cases (findR w 1 (c.ar, c.an)).isSome <;> cases openR w (c.ar, c.an) <;> rfl
  by_cases k3 : c.kind = 3
  · simp only [k3]; rfl
  by_cases k4 : c.kind = 4
  · simp only [k4]
    cases regF w (foldB c.user) <;> rfl
  by_cases k5 : c.kind = 5
  · simp only [k5]
    cases regF w (foldB c.user) <;> rfl
  by_cases k6 : c.kind = 6
  · simp only [k6]
    cases regF w (foldB c.user) <;> cases decide (depF x c.user - drawnF x (foldB c.user) < c.amount) <;> rfl
  simp [k2, k3, k4, k5, k6, k7]
theorem mkE_is {x : HL} {w : RH} {N : Nat} (hx : HI x N) (hs : Sim x w) (c : CT) (d : Int × Int) : rmkE w c d = makeE x c d := by
  rw [rmkE, makeE, mkS_is hx hs, why_is hx hs c d]
theorem mkN_is {x : HL} {w : RH} {N : Nat} (hx : HI x N) (hs : Sim x w) (c : CT) (d : Int × Int) : rmkN w c d = makeN x c d := by
  rw [rmkN, makeN, mkS_is hx hs, mkE_is hx hs]
end Go.Proofs

namespace Go.Proofs
open Go Go.V Go.Lib
set_option maxRecDepth 100000
set_option linter.unusedVariables false

abbrev hoW7 (w : RH) (q : RQ) : List SO := [.cells (vcells w.v ++ [.sl 8 q.l.o w.L.length q.l.c, .sl 9 q.r.o w.R.length q.r.c, .sl 10 q.u.o w.us.length q.u.c, .sl 11 q.p.o w.sp.length q.p.c, .sl 12 q.s.o w.su.length q.s.c, .sl 13 q.e.o w.cl.length q.e.c]) T_rostrumref24_House,
  .arr q.l.xs T_rostrumref24_Step, .arr q.r.xs T_rostrumref24_Step, .arr q.u.xs T_string, .arr q.p.xs T_string, .arr q.s.xs T_int64, .arr q.e.xs T_rostrumref24_outcome]
structure PX where
  i : Nat
  x : HL
  rx : List Value
  ro : Nat
  rc : Nat
  w : RH
  q : RQ
structure PI (n : Nat) (y : PX) : Prop where
  hi : y.i ≤ n
  hx : HI y.x y.i
  hr : RowG stcl 19 y.rx y.ro y.rc y.x.red
  hs : Sim y.x y.w
  hk : RK y.w y.q
  pl : PL y.w y.i
theorem PI.new {n : Nat} : PI n ⟨0, HL.new, [], 0, 0, RH.new, RQ.new⟩ := ⟨Nat.zero_le _, HI.new, row0, sim_new, RK.new, PL.new⟩
set_option maxHeartbeats 8000000 in
theorem s_GenSays (h : Nat → Option Obj) (hu : Uni h) (hc : CaseH h) (v : Value) (L : List ST) (hv : RowsIs stcl 19 h v L) (_ : True) (c : CT) (d1 d2 : Int) :
    Ctr Tryz.prog F_rostrumlaw25_GenSays [.raw v, .agg (cacells c), .agg (dcells d1 d2)] [.heap h] (fun r H => r = bv true ∧ H = [.heap h]) := by
  obtain ⟨a1, c1, rfl⟩ := hv.shape
  obtain ⟨b1, o1, xs1, e1, fr1, p1⟩ := hv.pos
  have fin : ∀ l : List SO, VRet 1 (bv true) (.heap h :: l) (fun r H => r = bv true ∧ H = [.heap h]) := fun l => VRet.mk [0] (bv true) [.heap h] ⟨rfl, rfl, rfl⟩ ⟨rfl, rfl⟩
  refine i_rostrumlaw25_GenSays.spec follows ?_
  refine VCall.mk [0] (s_awake h hu hc) ⟨rfl, rfl, rfl⟩ ?_
  rintro _ _ ⟨rfl, rfl⟩
  refine And.intro (fun k => absurd k (by decide)) (fun _ => ?_)
  refine And.intro (fun k1 => ?_) (fun k1 => fin _)
  have k1 : ¬ (30 : Int) < (L.length : Nat) := of_decide_eq_false k1
  refine And.intro (fun k2 => ?_) (fun k2 => fin _)
  have k2 : ¬ (100 : Int) < (c.name.size : Nat) := of_decide_eq_false k2
  refine And.intro (fun k3 => fin _) (fun k3 => ?_)
  have k3 : ¬ (100 : Int) < (c.user.size : Nat) := of_decide_eq_false k3
  have zn : c.name.size ≤ 1000 := by omega
  have zu : c.user.size ≤ 1000 := by omega
  refine VCall.mk [] s_New ⟨rfl, rfl, rfl⟩ ?_
  rintro _ _ ⟨rfl, rfl⟩
  refine VLoop.nil (H' := [.heap h, .cells (cacells c) T_gen_Call, .cells (dcells d1 d2) T_api_Dot, .cells (vcells (fun _ => 0) ++ [.mp 4, .sl 8 0 0 0, .mp 5, .mp 6, .mp 7]) T_auct_House, .map [] 0, .map [] 0, .map [] 0, .map [] 0, .arr [] T_auct_Step, .cells (vcells (fun _ => 0) ++ [.sl 10 0 0 0, .raw (.slice none 0 0), .raw (.slice none 0 0), .raw (.slice none 0 0), .raw (.slice none 0 0), .raw (.slice none 0 0)]) T_rostrumref24_House]) T_rostrumref24_Step [] [(9, 7)] ⟨rfl, rfl⟩ ?_
  refine VLoop.nil (H' := [.heap h, .cells (cacells c) T_gen_Call, .cells (dcells d1 d2) T_api_Dot, .cells (vcells (fun _ => 0) ++ [.mp 4, .sl 8 0 0 0, .mp 5, .mp 6, .mp 7]) T_auct_House, .map [] 0, .map [] 0, .map [] 0, .map [] 0, .arr [] T_auct_Step, .cells (vcells (fun _ => 0) ++ [.sl 10 0 0 0, .sl 11 0 0 0, .raw (.slice none 0 0), .raw (.slice none 0 0), .raw (.slice none 0 0), .raw (.slice none 0 0)]) T_rostrumref24_House, .arr [] T_rostrumref24_Step]) T_rostrumref24_Step [] [(9, 8)] ⟨rfl, rfl⟩ ?_
  refine VLoop.nil (H' := [.heap h, .cells (cacells c) T_gen_Call, .cells (dcells d1 d2) T_api_Dot, .cells (vcells (fun _ => 0) ++ [.mp 4, .sl 8 0 0 0, .mp 5, .mp 6, .mp 7]) T_auct_House, .map [] 0, .map [] 0, .map [] 0, .map [] 0, .arr [] T_auct_Step, .cells (vcells (fun _ => 0) ++ [.sl 10 0 0 0, .sl 11 0 0 0, .sl 12 0 0 0, .raw (.slice none 0 0), .raw (.slice none 0 0), .raw (.slice none 0 0)]) T_rostrumref24_House, .arr [] T_rostrumref24_Step, .arr [] T_rostrumref24_Step]) T_string [] [(9, 9)] ⟨rfl, rfl⟩ ?_
  refine VLoop.nil (H' := [.heap h, .cells (cacells c) T_gen_Call, .cells (dcells d1 d2) T_api_Dot, .cells (vcells (fun _ => 0) ++ [.mp 4, .sl 8 0 0 0, .mp 5, .mp 6, .mp 7]) T_auct_House, .map [] 0, .map [] 0, .map [] 0, .map [] 0, .arr [] T_auct_Step, .cells (vcells (fun _ => 0) ++ [.sl 10 0 0 0, .sl 11 0 0 0, .sl 12 0 0 0, .sl 13 0 0 0, .raw (.slice none 0 0), .raw (.slice none 0 0)]) T_rostrumref24_House, .arr [] T_rostrumref24_Step, .arr [] T_rostrumref24_Step, .arr [] T_string]) T_string [] [(9, 10)] ⟨rfl, rfl⟩ ?_
  refine VLoop.nil (H' := [.heap h, .cells (cacells c) T_gen_Call, .cells (dcells d1 d2) T_api_Dot, .cells (vcells (fun _ => 0) ++ [.mp 4, .sl 8 0 0 0, .mp 5, .mp 6, .mp 7]) T_auct_House, .map [] 0, .map [] 0, .map [] 0, .map [] 0, .arr [] T_auct_Step, .cells (vcells (fun _ => 0) ++ [.sl 10 0 0 0, .sl 11 0 0 0, .sl 12 0 0 0, .sl 13 0 0 0, .sl 14 0 0 0, .raw (.slice none 0 0)]) T_rostrumref24_House, .arr [] T_rostrumref24_Step, .arr [] T_rostrumref24_Step, .arr [] T_string, .arr [] T_string]) T_int64 [] [(9, 11)] ⟨rfl, rfl⟩ ?_
  refine VLoop.nil (H' := [.heap h, .cells (cacells c) T_gen_Call, .cells (dcells d1 d2) T_api_Dot, .cells (vcells (fun _ => 0) ++ [.mp 4, .sl 8 0 0 0, .mp 5, .mp 6, .mp 7]) T_auct_House, .map [] 0, .map [] 0, .map [] 0, .map [] 0, .arr [] T_auct_Step, .cells (vcells (fun _ => 0) ++ [.sl 10 0 0 0, .sl 11 0 0 0, .sl 12 0 0 0, .sl 13 0 0 0, .sl 14 0 0 0, .sl 15 0 0 0]) T_rostrumref24_House, .arr [] T_rostrumref24_Step, .arr [] T_rostrumref24_Step, .arr [] T_string, .arr [] T_string, .arr [] T_int64]) T_rostrumref24_outcome [] [(9, 12)] ⟨rfl, rfl⟩ ?_
  refine VLoop.mk PX (fun y => [(0, .raw (.slice a1 L.length c1)), (4, .ptr 14 0), (5, .ptr 15 0), (7, .ptr 1 0), (8, .ptr 7 0), (9, iv y.i)])
    (fun y => .heap h :: hoP1 y.x y.rx y.ro y.rc ++ hoW7 y.w y.q ++ [.cells (cacells c) T_gen_Call, .cells (dcells d1 d2) T_api_Dot]) (PI L.length) (fun y => L.length - y.i) ⟨0, HL.new, [], 0, 0, RH.new, RQ.new⟩ [0, 3, 4, 5, 6, 7, 8, 9, 10, 11, 12, 13, 14, 15, 1, 2]
    ⟨PI.new, rfl, rfl, rfl⟩ ?_
  rintro ⟨i, x, rx, ro, rc, w, q⟩ ⟨hi, hx, hr, hs, hk, pl⟩ g
  simp only at hi hx hr hs hk pl
  refine And.intro (fun h1 => ?_) (fun h1 => ?_)
  · have h1 : (i : Int) < (L.length : Nat) := of_decide_eq_true h1
    have hil : i < L.length := Int.ofNat_lt.1 h1
    have hL30 : L.length ≤ 30 := by clear hx hr hs hk pl; omega
    have hi40 : i < 40 := Nat.lt_of_lt_of_le hil (Nat.le_trans hL30 (by decide))
    have hwi : IntKind.i64.wrap ((i : Int) + 1) = ((i + 1 : Nat) : Int) := wrapM hil (Nat.le_trans hL30 (by decide))
    have q1 := p1 (Nat.lt_of_le_of_lt (Nat.zero_le _) hil)
    obtain ⟨rfl, hh1, hcut1⟩ := q1
    have ci := hcut1 i hil
    have hni : (0 : Int) ≤ (i : Int) ∧ (i : Int) < (L.length : Nat) := ⟨Int.natCast_nonneg i, h1⟩
    refine And.intro hni ?_
    refine Exists.intro 0 (Exists.intro xs1 (Exists.intro e1 (Exists.intro fr1 (And.intro hh1 (Exists.intro _ (And.intro (by rw [Int.toNat_natCast]; exact ci) ?_))))))
    refine VCall.mk [] (s_long L[i]) ⟨rfl, rfl, rfl⟩ ?_
    rintro _ _ ⟨rfl, rfl⟩
    refine And.intro (fun kl => fin _) (fun kl => ?_)
    have z12 := long_not kl
    obtain ⟨z1, z2⟩ := z12
    refine And.intro hni ?_
    refine Exists.intro 0 (Exists.intro xs1 (Exists.intro e1 (Exists.intro fr1 (And.intro hh1 (Exists.intro _ (And.intro (by rw [Int.toNat_natCast]; exact ci) ?_))))))
    refine VCall.mk [] (s_Red L[i]) ⟨rfl, rfl, rfl⟩ ?_
    rintro _ _ ⟨rfl, rfl⟩
    have hxm := hx.mono (Nat.le_succ i)
    refine And.intro (fun kr => ?_) (fun kr => ?_)
    · have hDo := s_refDo h hu hc w q hk (rhb_of hx hs) (Nat.lt_of_le_of_lt pl.r (Nat.lt_trans hi40 (by decide))) (Nat.lt_of_le_of_lt pl.u (Nat.lt_trans hi40 (by decide))) (Nat.lt_of_le_of_lt pl.p (Nat.lt_trans hi40 (by decide))) (Nat.lt_of_le_of_lt pl.e (Nat.lt_trans hi40 (by decide))) L[i] (Nat.le_trans z1 (by decide)) (Nat.le_trans z2 (by decide))
      have hqe := refDE_is hs L[i]
      refine And.intro hni ?_
      refine Exists.intro 0 (Exists.intro xs1 (Exists.intro e1 (Exists.intro fr1 (And.intro hh1 (Exists.intro _ (And.intro (by rw [Int.toNat_natCast]; exact ci) ?_))))))
      refine VCall.mk [1, 2, 3, 4, 5, 6, 0] (s_Do h hu hc x i hx (Nat.le_trans (Nat.le_of_lt hi40) (by decide)) rx ro rc hr L[i] (Nat.le_trans z1 (by decide)) (Nat.le_trans z2 (by decide))) ⟨rfl, rfl, rfl⟩ ?_
      rintro _ _ (⟨he, rfl, rfl⟩ | ⟨he, rfl, rx2, ro2, rc2, hr2, rfl⟩)
      · refine And.intro hni ?_
        refine Exists.intro 0 (Exists.intro xs1 (Exists.intro e1 (Exists.intro fr1 (And.intro hh1 (Exists.intro _ (And.intro (by rw [Int.toNat_natCast]; exact ci) ?_))))))
        refine VCall.mk [] (s_stp L[i]) ⟨rfl, rfl, rfl⟩ ?_
        rintro _ _ ⟨rfl, rfl⟩
        refine VCall.mk [7, 8, 9, 10, 11, 12, 13, 0] hDo ⟨rfl, rfl, rfl⟩ ?_
        intro v2 H2 hD
        cases hD with
        | bad hb =>
          refine Exists.intro _ (And.intro hwi ?_)
          exact Exists.intro ⟨i + 1, x, rx, ro, rc, w, q⟩ (Exists.intro [0, 1, 2, 3, 4, 5, 6, 7, 8, 9, 10, 11, 12, 13, 14, 15] (And.intro ⟨⟨hil, hxm, hr, hs, hk, pl.mono⟩, subM hil⟩ ⟨rfl, rfl, rfl⟩))
        | no r h0 _ _ => exact absurd (hqe.symm.trans h0) he
        | reg r u k h0 _ _ _ _ => exact absurd (hqe.symm.trans h0) he
        | pay r p t h0 _ _ _ => exact absurd (hqe.symm.trans h0) he
        | over r e b h0 _ _ _ _ => exact absurd (hqe.symm.trans h0) he
      · have hx2 := hx.red he
        have hgd : goodT L[i] = true := do_good he
        refine And.intro hni ?_
        refine Exists.intro 0 (Exists.intro xs1 (Exists.intro e1 (Exists.intro fr1 (And.intro hh1 (Exists.intro _ (And.intro (by rw [Int.toNat_natCast]; exact ci) ?_))))))
        refine VCall.mk [] (s_stp L[i]) ⟨rfl, rfl, rfl⟩ ?_
        rintro _ _ ⟨rfl, rfl⟩
        refine VCall.mk [7, 8, 9, 10, 11, 12, 13, 0] hDo ⟨rfl, rfl, rfl⟩ ?_
        intro v2 H2 hD
        cases hD with
        | bad hb => exact absurd (hqe.trans he) hb
        | no r h0 hw hkq =>
          have hs2 := (sim_no hx hs hw).1
          refine Exists.intro _ (And.intro hwi ?_)
          exact Exists.intro ⟨i + 1, doN x L[i], rx2, ro2, rc2, w.did L[i], { q with r := r }⟩ (Exists.intro [0, 1, 2, 3, 4, 5, 16, 7, 8, 17, 10, 11, 12, 13, 14, 15] (And.intro ⟨⟨hil, hx2, hr2, hs2, hkq, pl.did⟩, subM hil⟩ ⟨rfl, rfl, rfl⟩))
        | reg r us k h0 h5 hf hI hkq =>
          have hs2 := (sim_reg hx hs h5 hf hI).1
          refine Exists.intro _ (And.intro hwi ?_)
          exact Exists.intro ⟨i + 1, doN x L[i], rx2, ro2, rc2, w.reg L[i] k, { q with r := r, u := us }⟩ (Exists.intro [0, 1, 2, 3, 4, 5, 16, 7, 8, 17, 18, 11, 12, 13, 14, 15] (And.intro ⟨⟨hil, hx2, hr2, hs2, hkq, pl.reg hI.le⟩, subM hil⟩ ⟨rfl, rfl, rfl⟩))
        | pay r p t h0 h6 hf hkq =>
          have hs2 := (sim_pay hx hs hgd h6 hf).1
          refine Exists.intro _ (And.intro hwi ?_)
          exact Exists.intro ⟨i + 1, doN x L[i], rx2, ro2, rc2, w.pay L[i], { q with r := r, p := p, s := t }⟩ (Exists.intro [0, 1, 2, 3, 4, 5, 16, 7, 8, 17, 10, 18, 19, 13, 14, 15] (And.intro ⟨⟨hil, hx2, hr2, hs2, hkq, pl.pay⟩, subM hil⟩ ⟨rfl, rfl, rfl⟩))
        | over r e b h0 h7 hm hb hkq =>
          have hs2 := (sim_over hx hs h7 hm hb).1
          refine Exists.intro _ (And.intro hwi ?_)
          exact Exists.intro ⟨i + 1, doN x L[i], rx2, ro2, rc2, w.over L[i] b, { q with r := r, e := e }⟩ (Exists.intro [0, 1, 2, 3, 4, 5, 16, 7, 8, 17, 10, 11, 12, 18, 14, 15] (And.intro ⟨⟨hil, hx2, hr2, hs2, hkq, pl.over⟩, subM hil⟩ ⟨rfl, rfl, rfl⟩))
    · have hv : ∀ j, j < 7 → 0 ≤ w.v j ∧ w.v j ≤ 1099511627776 := by rw [hs.v]; exact hx.v
      have hBl := s_refBlue h hu w q hk hv L[i] (Nat.le_trans z1 (by decide)) (Nat.le_trans z2 (by decide))
      have hqe := refE_is hs L[i]
      refine And.intro hni ?_
      refine Exists.intro 0 (Exists.intro xs1 (Exists.intro e1 (Exists.intro fr1 (And.intro hh1 (Exists.intro _ (And.intro (by rw [Int.toNat_natCast]; exact ci) ?_))))))
      refine VCall.mk [1, 2, 3, 4, 5, 6, 0] (s_Blue h hu x hx.v rx ro rc L[i] (Nat.le_trans z1 (by decide)) (Nat.le_trans z2 (by decide))) ⟨rfl, rfl, rfl⟩ ?_
      rintro _ _ ⟨rfl, rfl⟩
      refine And.intro hni ?_
      refine Exists.intro 0 (Exists.intro xs1 (Exists.intro e1 (Exists.intro fr1 (And.intro hh1 (Exists.intro _ (And.intro (by rw [Int.toNat_natCast]; exact ci) ?_))))))
      refine VCall.mk [] (s_stp L[i]) ⟨rfl, rfl, rfl⟩ ?_
      rintro _ _ ⟨rfl, rfl⟩
      refine VCall.mk [7, 8, 9, 10, 11, 12, 13, 0] hBl ⟨rfl, rfl, rfl⟩ ?_
      have hxb := hx.blue (s := L[i]) (Nat.le_trans z2 (by decide))
      have hrb : RowG stcl 19 rx ro rc (blueN x L[i]).red := by rw [blue_red]; exact hr
      rintro _ _ (⟨hne, rfl, rfl⟩ | ⟨h0, rfl, k, ys, o2, c2, hI, hry, rfl⟩)
      · have hbx : blueN x L[i] = x := blueN_1 (by rw [← hqe]; exact hne)
        have hsb : Sim (blueN x L[i]) w := by rw [hbx]; exact hs
        refine Exists.intro _ (And.intro hwi ?_)
        exact Exists.intro ⟨i + 1, blueN x L[i], rx, ro, rc, w, q⟩ (Exists.intro [0, 1, 2, 3, 4, 5, 6, 7, 8, 9, 10, 11, 12, 13, 14, 15] (And.intro ⟨⟨hil, hxb, hrb, hsb, hk, pl.mono⟩, subM hil⟩ ⟨rfl, rfl, rfl⟩))
      · have hsb := sim_blue hx hs (hqe.symm.trans h0) hI
        have hkb : RK (wB w L[i] k) { q with l := ⟨ys, o2, c2⟩ } := ⟨hry, hk.r, hk.u, hk.p, hk.s, hk.e, by show (insL w.L L[i] k).length ≤ 1000; rw [insL_len hI.le]; exact lenB hI.le pl.l hi40, hk.rl, hk.ul, hk.pl, hk.sl, hk.el⟩
        refine Exists.intro _ (And.intro hwi ?_)
        exact Exists.intro ⟨i + 1, blueN x L[i], rx, ro, rc, wB w L[i] k, { q with l := ⟨ys, o2, c2⟩ }⟩ (Exists.intro [0, 1, 2, 3, 4, 5, 6, 7, 16, 9, 10, 11, 12, 13, 14, 15] (And.intro ⟨⟨hil, hxb, hrb, hsb, hkb, (pl.blue hI.le)⟩, subM hil⟩ ⟨rfl, rfl, rfl⟩))
  · have hN : i ≤ 1000000 := by clear hx hr hs hk pl; omega
    have hM := s_Make h hu hc x i hx hN rx ro rc c (d1, d2) zn zu
    have hR := s_refMake h hu hc w q hk (rhd_of hx hs) hs.su c (d1, d2) zn zu
    rw [mkN_is hx hs, mkE_is hx hs] at hR
    refine VCall.mk [1, 2, 3, 4, 5, 6, 0] hM ⟨rfl, rfl, rfl⟩ ?_
    rintro _ _ ⟨rfl, rfl⟩
    refine And.intro ?a ?b
    case a =>
      refine VCall.mk [] (s_cal c) ⟨rfl, rfl, rfl⟩ ?_
      rintro _ _ ⟨rfl, rfl⟩
      repeat refine And.intro rfl ?_
      refine And.intro ?p1 ?p2
      case p1 =>
        refine VCall.mk [7, 8, 9, 10, 11, 12, 13, 0] hR ⟨rfl, rfl, rfl⟩ ?_
        rintro _ _ ⟨rfl, rfl⟩
        refine VCall.mk [] (s_stp (makeN x c (d1, d2))) ⟨rfl, rfl, rfl⟩ ?_
        rintro _ _ ⟨rfl, rfl⟩
        refine And.intro rfl ?_
        refine And.intro (fun _ => ?_) (fun k => absurd k (by simp [bb_self]))
        refine VRet.mk [0] (bv _) [.heap h] ⟨rfl, rfl, rfl⟩ ⟨?_, rfl⟩
        show bv _ = bv _
        simp
      case p2 =>
        repeat refine And.intro rfl ?_
        refine VCall.mk [7, 8, 9, 10, 11, 12, 13, 0] hR ⟨rfl, rfl, rfl⟩ ?_
        rintro _ _ ⟨rfl, rfl⟩
        repeat refine And.intro rfl ?_
        refine VCall.mk [] (s_stp (makeN x c (d1, d2))) ⟨rfl, rfl, rfl⟩ ?_
        rintro _ _ ⟨rfl, rfl⟩
        refine And.intro rfl ?_
        refine And.intro (fun _ => ?_) (fun k => absurd k (by simp [bb_self]))
        refine VRet.mk [0] (bv _) [.heap h] ⟨rfl, rfl, rfl⟩ ⟨?_, rfl⟩
        show bv _ = bv _
        simp
    case b =>
      repeat refine And.intro rfl ?_
      refine VCall.mk [] (s_cal c) ⟨rfl, rfl, rfl⟩ ?_
      rintro _ _ ⟨rfl, rfl⟩
      repeat refine And.intro rfl ?_
      refine VCall.mk [7, 8, 9, 10, 11, 12, 13, 0] hR ⟨rfl, rfl, rfl⟩ ?_
      rintro _ _ ⟨rfl, rfl⟩
      repeat refine And.intro rfl ?_
      refine VCall.mk [] (s_stp (makeN x c (d1, d2))) ⟨rfl, rfl, rfl⟩ ?_
      rintro _ _ ⟨rfl, rfl⟩
      refine And.intro rfl ?_
      refine And.intro (fun _ => ?_) (fun k => absurd k (by simp [bb_self]))
      refine VRet.mk [0] (bv _) [.heap h] ⟨rfl, rfl, rfl⟩ ⟨?_, rfl⟩
      show bv _ = bv _
      simp
end Go.Proofs

