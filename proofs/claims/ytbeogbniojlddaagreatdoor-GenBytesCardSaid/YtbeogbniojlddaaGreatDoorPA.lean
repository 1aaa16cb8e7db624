/- Part of the proof that the statement named in the last file holds: lemmas of the prover's own. No conditions. -/
import Derived.Test.YtbeogbniojlddaaGreatDoorDD
import Derived.Test.YtbeogbniojlddaaGreatDoorDB
import Derived.Test.YtbeogbniojlddaaGreatDoorDC
import Derived.Test.YtbeogbniojlddaaGreatDoorZA
import Derived.Test.YtbeogbniojlddaaGreatDoorVD
namespace Go.Proofs
open Go Go.V Go.Lib
set_option maxRecDepth 100000
set_option linter.unusedVariables false

/-! ### The reader: texts, dots -/
def rdText (l : List Int) (lim : Int) : Option (ByteArray × List Int) := match rdN l 0 lim with
  | none => none
  | some (n, l') => if (l'.length : Int) < n then none else some (strOf (l'.take n.toNat), l'.drop n.toNat)
theorem brow_take {xs : List Value} {o c : Nat} {l : List Int} (h : Brow xs o c l) {k : Nat} (hk : k ≤ l.length) : Brow xs o c (l.take k) := by
  obtain ⟨h1, h2, h3⟩ := h
  refine ⟨by rw [List.length_take]; omega, h2, ?_⟩
  rw [List.length_take, Nat.min_eq_left hk, List.map_take, ← h3, List.take_take, Nat.min_eq_left hk]
theorem rdN_range {l : List Int} {a b n : Int} {l' : List Int} (h : rdN l a b = some (n, l')) : a ≤ n ∧ n ≤ b := by
  unfold rdN at h
  split at h
  · cases h
  · split at h
    · cases h
    · rename_i hh
      cases h
      omega
theorem s_rdBytes (l : List Int) (o c : Nat) (bad : Bool) (xs : List Value) (te : TypeId) (lim : Int) (hb : Brow xs o c l) (hby : ∀ b ∈ l, 0 ≤ b ∧ b < 256) (hl : l.length ≤ 1000000) :
    Ctr Tryz.prog F_pack_Reader_Bytes [.ptr 0 0, iv lim] [.cells (rdc 1 o l.length c bad) T_pack_Reader, .arr xs te]
    (fun x H => (∃ (n : Nat) (l' : List Int), rdN l 0 lim = some ((n : Int), l') ∧ n ≤ l'.length ∧ l' <:+ l ∧ ∃ o' c' ys o2 c2, x = .sl 2 o2 n c2 ∧ H = [.cells (rdc 1 o' (l'.drop n).length c' bad) T_pack_Reader, .arr xs te, .arr ys T_uint8] ∧ Brow xs o' c' (l'.drop n) ∧ Brow ys o2 c2 (l'.take n)) ∨
      (rdText l lim = none ∧ ∃ ys o2 c2, x = .sl 3 o2 0 c2 ∧ H = [.cells (rdc 2 0 0 0 true) T_pack_Reader, .arr xs te, .arr [] T_uint8, .arr ys T_uint8] ∧ Brow ys o2 c2 [])) := by
  refine i_pack_Reader_Bytes.spec follows ?_
  refine VCall.mk [0, 1] (s_Num l 0 lim o c bad xs te hb hby) ⟨rfl, rfl, rfl⟩ ?_
  rintro _ _ (⟨v, l', hv, rfl, o', c', rfl, hb', hsf⟩ | ⟨hv, rfl, rfl⟩)
  · have hr := rdN_range hv
    obtain ⟨n, rfl⟩ : ∃ n : Nat, v = n := ⟨v.toNat, by omega⟩
    refine And.intro (fun k => ?_) (fun k => ?_)
    · have k : ((l'.length : Nat) : Int) < (n : Int) := of_decide_eq_true k
      refine VCall.mk [0, 1] (s_fail o' l'.length c' bad xs te) ⟨rfl, rfl, rfl⟩ ?_
      rintro _ _ ⟨rfl, rfl⟩
      refine VRet.nil T_uint8 [0] [] ⟨rfl, rfl⟩ (VRet.mk [0, 1, 2, 3] (.sl 3 0 0 0) [.cells (rdc 2 0 0 0 true) T_pack_Reader, .arr xs te, .arr [] T_uint8, .arr [] T_uint8] ⟨rfl, rfl, rfl⟩ (.inr ⟨?_, [], 0, 0, rfl, rfl, brow_nil⟩))
      unfold rdText; rw [hv]; simp only; rw [if_pos k]
    · have k : ¬ ((l'.length : Nat) : Int) < (n : Int) := of_decide_eq_false k
      have hnl : n ≤ l'.length := by omega
      have hnc : n ≤ c' := Nat.le_trans hnl hb'.1
      have hlt : (l'.take n).length = n := by rw [List.length_take]; omega
      have hC := s_bytes_Clone (l'.take n) xs te o' c' (brow_take hb' hnl) (by rw [hlt]; have := hsf.length_le; omega)
      rw [hlt] at hC
      refine And.intro ⟨Int.natCast_nonneg n, Int.ofNat_le.2 hnc⟩ ?_
      refine VCall.mk [1] hC ⟨rfl, rfl, rfl⟩ ?_
      rintro _ _ ⟨o2, c2, ys, rfl, rfl, hby2⟩
      refine And.intro ⟨Int.natCast_nonneg n, Int.ofNat_le.2 hnl⟩ ?_
      refine Exists.elim (⟨_, rfl⟩ : ∃ o3, o3 = if c' = (n : Int).toNat then o' else o' + (n : Int).toNat * 1) fun o3 ho3 => ?_
      refine Exists.intro o3 (And.intro ho3 ?_)
      have hbd := brow_drop hb' hnl ho3
      refine VRet.mk [0, 1, 2] (.sl 2 o2 n c2) [.cells (rdc 1 o3 (l'.length - n) (c' - n) bad) T_pack_Reader, .arr xs te, .arr ys T_uint8] ⟨rfl, rfl, rfl⟩ (.inl ⟨n, l', hv, hnl, hsf, o3, c' - n, ys, o2, c2, rfl, ?_, hbd, hby2⟩)
      rw [List.length_drop]
  · refine And.intro (fun k => absurd k (by decide)) (fun _ => ?_)
    refine And.intro ⟨Int.le_refl _, Int.le_refl _⟩ ?_
    refine VCall.mk [2] (s_bytes_Clone [] [] T_uint8 0 0 brow_nil (by simp)) ⟨rfl, rfl, rfl⟩ ?_
    rintro _ _ ⟨o2, c2, ys, rfl, rfl, hby2⟩
    refine And.intro ⟨Int.le_refl _, Int.le_refl _⟩ ?_
    refine Exists.intro 0 (And.intro rfl ?_)
    refine VRet.mk [0, 1, 2, 3] (.sl 3 o2 0 c2) [.cells (rdc 2 0 0 0 true) T_pack_Reader, .arr xs te, .arr [] T_uint8, .arr ys T_uint8] ⟨rfl, rfl, rfl⟩ (.inr ⟨?_, ys, o2, c2, rfl, rfl, hby2⟩)
    unfold rdText; rw [hv]
theorem s_Text (l : List Int) (o c : Nat) (bad : Bool) (xs : List Value) (te : TypeId) (lim : Int) (hlim : 0 ≤ lim ∧ lim ≤ 1000) (hb : Brow xs o c l) (hby : ∀ b ∈ l, 0 ≤ b ∧ b < 256) (hl : l.length ≤ 1000000) :
    Ctr Tryz.prog F_pack_Reader_Text [.ptr 0 0, iv lim] [.cells (rdc 1 o l.length c bad) T_pack_Reader, .arr xs te]
    (fun x H => (∃ v l', rdText l lim = some (v, l') ∧ x = .raw (.string v) ∧ ∃ o' c', H = [.cells (rdc 1 o' l'.length c' bad) T_pack_Reader, .arr xs te] ∧ Brow xs o' c' l' ∧ l' <:+ l) ∨
      (rdText l lim = none ∧ x = .raw (.string es) ∧ H = [.cells (rdc 2 0 0 0 true) T_pack_Reader, .arr xs te, .arr [] T_uint8])) := by
  refine i_pack_Reader_Text.spec follows ?_
  refine VCall.mk [0, 1] (s_rdBytes l o c bad xs te lim hb hby hl) ⟨rfl, rfl, rfl⟩ ?_
  rintro _ _ (⟨n, l', hv, hnl, hsf, o', c', ys, o2, c2, rfl, rfl, hb', hy⟩ | ⟨hv, ys, o2, c2, rfl, rfl, hy⟩)
  · have hlt : (l'.take n).length = n := by rw [List.length_take]; omega
    have hbt : ∀ b ∈ l'.take n, 0 ≤ b ∧ b < 256 := fun b hb => hby b (hsf.mem (List.mem_of_mem_take hb))
    refine Exists.intro (strOf (l'.take n)) (And.intro ?_ ?_)
    · show some ((ys.drop o2).take (n * 1), n) = _
      rw [strOf_cells hbt, strOf_size, hlt]
      have h3 := hy.2.2
      rw [hlt] at h3
      rw [Nat.mul_one, h3]
    refine VRet.mk [0, 1] (.raw (.string (strOf (l'.take n)))) [.cells (rdc 1 o' (l'.drop n).length c' bad) T_pack_Reader, .arr xs te] ⟨rfl, rfl, rfl⟩ (.inl ⟨strOf (l'.take n), l'.drop n, ?_, rfl, o', c', rfl, hb', (List.drop_suffix n l').trans hsf⟩)
    unfold rdText; rw [hv]; simp only; rw [if_neg (by omega)]; rfl
  · refine Exists.intro es (And.intro ?_ ?_)
    · show some ((ys.drop o2).take (0 * 1), 0) = _
      simp; rfl
    exact VRet.mk [0, 1, 2] (.raw (.string es)) [.cells (rdc 2 0 0 0 true) T_pack_Reader, .arr xs te, .arr [] T_uint8] ⟨rfl, rfl, rfl⟩ (.inr ⟨hv, rfl, rfl⟩)
def rdDot (l : List Int) : Option ((Int × Int) × List Int) := match rdN l 0 6 with
  | none => none
  | some (r, l1) => match rdN l1 0 1099511627776 with
    | none => none
    | some (n, l2) => some ((r, n), l2)
def dotFail (l : List Int) : Int × Int := match rdN l 0 6 with
  | none => (0, 0)
  | some (r, _) => (r, 0)
theorem s_NumF (a b : Int) (te : TypeId) : Ctr Tryz.prog F_pack_Reader_Num [.ptr 0 0, iv a, iv b] [.cells (rdc 1 0 0 0 true) T_pack_Reader, .arr [] te]
    (fun x H => x = iv 0 ∧ H = [.cells (rdc 2 0 0 0 true) T_pack_Reader, .arr [] te, .arr [] T_uint8]) := by
  refine Ctr.weak (s_Num [] a b 0 0 true [] te brow_nil (by simp)) ?_
  rintro _ _ (⟨v, l', hv, _⟩ | ⟨_, rfl, rfl⟩)
  · unfold rdN at hv; rw [rd_end] at hv; cases hv
  · exact ⟨rfl, rfl⟩
theorem s_TextF (te : TypeId) (lim : Int) (hlim : 0 ≤ lim ∧ lim ≤ 1000) : Ctr Tryz.prog F_pack_Reader_Text [.ptr 0 0, iv lim] [.cells (rdc 1 0 0 0 true) T_pack_Reader, .arr [] te]
    (fun x H => x = .raw (.string es) ∧ H = [.cells (rdc 2 0 0 0 true) T_pack_Reader, .arr [] te, .arr [] T_uint8]) := by
  refine Ctr.weak (s_Text [] 0 0 true [] te lim hlim brow_nil (by simp) (by simp)) ?_
  rintro _ _ (⟨v, l', hv, _⟩ | ⟨_, rfl, rfl⟩)
  · unfold rdText rdN at hv; rw [rd_end] at hv; cases hv
  · exact ⟨rfl, rfl⟩
theorem s_dot (l : List Int) (o c : Nat) (xs : List Value) (te : TypeId) (hb : Brow xs o c l) (hby : ∀ b ∈ l, 0 ≤ b ∧ b < 256) :
    Ctr Tryz.prog F_gen_dot [.ptr 0 0] [.cells (rdc 1 o l.length c false) T_pack_Reader, .arr xs te]
    (fun x H => (∃ v l', rdDot l = some (v, l') ∧ x = .agg (dcells v.1 v.2) ∧ ∃ o' c', H = [.cells (rdc 1 o' l'.length c' false) T_pack_Reader, .arr xs te] ∧ Brow xs o' c' l' ∧ l' <:+ l) ∨
      (rdDot l = none ∧ x = .agg (dcells (dotFail l).1 (dotFail l).2) ∧ H = [.cells (rdc 2 0 0 0 true) T_pack_Reader, .arr xs te, .arr [] T_uint8])) := by
  refine i_gen_dot.spec follows ?_
  refine VCall.mk [0, 1] (s_Num l 0 6 o c false xs te hb hby) ⟨rfl, rfl, rfl⟩ ?_
  rintro _ _ (⟨v, l', hv, rfl, o', c', rfl, hb', hsf⟩ | ⟨hv, rfl, rfl⟩)
  · have hby' : ∀ b ∈ l', 0 ≤ b ∧ b < 256 := fun b hb => hby b (hsf.mem hb)
    refine VCall.mk [0, 1] (s_Num l' 0 1099511627776 o' c' false xs te hb' hby') ⟨rfl, rfl, rfl⟩ ?_
    rintro _ _ (⟨n, l2, hn, rfl, o2, c2, rfl, hb2, hsf2⟩ | ⟨hn, rfl, rfl⟩)
    · exact VRet.mk [0, 1] (.agg (dcells v n)) [.cells (rdc 1 o2 l2.length c2 false) T_pack_Reader, .arr xs te] ⟨rfl, rfl, rfl⟩ (.inl ⟨(v, n), l2, by unfold rdDot; rw [hv]; simp only; rw [hn], rfl, o2, c2, rfl, hb2, hsf2.trans hsf⟩)
    · exact VRet.mk [0, 1, 3] (.agg (dcells v 0)) [.cells (rdc 2 0 0 0 true) T_pack_Reader, .arr xs te, .arr [] T_uint8] ⟨rfl, rfl, rfl⟩ (.inr ⟨by unfold rdDot; rw [hv]; simp only; rw [hn], by unfold dotFail; rw [hv], rfl⟩)
  · refine VCall.mk [0, 3] (s_NumF 0 1099511627776 T_uint8) ⟨rfl, rfl, rfl⟩ ?_
    rintro _ _ ⟨rfl, rfl⟩
    exact VRet.mk [0, 1, 4] (.agg (dcells 0 0)) [.cells (rdc 2 0 0 0 true) T_pack_Reader, .arr xs te, .arr [] T_uint8] ⟨rfl, rfl, rfl⟩ (.inr ⟨by unfold rdDot; rw [hv], by unfold dotFail; rw [hv], rfl⟩)
theorem s_dotF (te : TypeId) : Ctr Tryz.prog F_gen_dot [.ptr 0 0] [.cells (rdc 1 0 0 0 true) T_pack_Reader, .arr [] te]
    (fun x H => x = .agg (dcells 0 0) ∧ H = [.cells (rdc 2 0 0 0 true) T_pack_Reader, .arr [] te, .arr [] T_uint8]) := by
  refine i_gen_dot.spec follows ?_
  refine VCall.mk [0, 1] (s_NumF 0 6 te) ⟨rfl, rfl, rfl⟩ ?_
  rintro _ _ ⟨rfl, rfl⟩
  refine VCall.mk [0, 3] (s_NumF 0 1099511627776 T_uint8) ⟨rfl, rfl, rfl⟩ ?_
  rintro _ _ ⟨rfl, rfl⟩
  exact VRet.mk [0, 1, 4] (.agg (dcells 0 0)) [.cells (rdc 2 0 0 0 true) T_pack_Reader, .arr [] te, .arr [] T_uint8] ⟨rfl, rfl, rfl⟩ ⟨rfl, rfl⟩
end Go.Proofs

namespace Go.Proofs
open Go Go.V Go.Lib
set_option maxRecDepth 100000
set_option linter.unusedVariables false

structure VFX where
  i : Nat
  v : Nat → Int
theorem s_vecF (te : TypeId) : Ctr Tryz.prog F_vec_Get [.ptr 0 0] [.cells (rdc 1 0 0 0 true) T_pack_Reader, .arr [] te]
    (fun x H => x = .agg (vcells fun _ => 0) ∧ H = [.cells (rdc 2 0 0 0 true) T_pack_Reader, .arr [] te, .arr [] T_uint8]) := by
  refine i_vec_Get.spec follows ?_
  refine VLoop.mk VFX (fun x => [(0, .ptr 0 0), (2, .ptr 2 0), (3, .ptr 3 0), (5, iv x.i)])
    (fun x => match x.i with
      | 0 => [.cells (rdc 1 0 0 0 true) T_pack_Reader, .arr [] te, .cells (vcells fun _ => 0) T_vec_Vec, .cells (vcells x.v) T_vec_Vec]
      | _ + 1 => [.cells (rdc 4 0 0 0 true) T_pack_Reader, .arr [] te, .cells (vcells fun _ => 0) T_vec_Vec, .cells (vcells x.v) T_vec_Vec, .arr [] T_uint8])
    (fun x => x.i ≤ 7) (fun x => 7 - x.i) ⟨0, fun _ => 0⟩ [0, 1, 2, 3] ⟨Nat.zero_le _, rfl, rfl, rfl⟩ ?_
  rintro ⟨_ | i, v⟩ hi g
  · refine And.intro (fun h => ?_) (fun h => absurd h (by simp))
    have hi7 : 0 ≤ ((0 : Nat) : Int) ∧ ((0 : Nat) : Int) < 7 := by decide
    have hw : IntKind.i64.wrap (((0 : Nat) : Int) + 1) = ((0 + 1 : Nat) : Int) := wrap64 (by omega)
    refine VCall.mk [0, 1] (s_NumF 0 1099511627776 te) ⟨rfl, rfl, rfl⟩ ?_
    rintro _ _ ⟨rfl, rfl⟩
    refine And.intro hi7 (Exists.intro _ (And.intro (vcells_put v 0 hi7 []) ?_))
    refine Exists.intro _ (And.intro hw ?_)
    exact Exists.intro ⟨0 + 1, upv v ((0 : Nat) : Int).toNat 0⟩ (Exists.intro [0, 1, 2, 3, 4] (And.intro ⟨by simp only; omega, by simp only; omega⟩ ⟨rfl, rfl, rfl⟩))
  · have hi : i + 1 ≤ 7 := hi
    refine And.intro (fun h => ?_) (fun h => ?_)
    · have h := of_decide_eq_true h
      have hi7 : 0 ≤ ((i + 1 : Nat) : Int) ∧ ((i + 1 : Nat) : Int) < 7 := ⟨by omega, h⟩
      have hw : IntKind.i64.wrap (((i + 1 : Nat) : Int) + 1) = ((i + 1 + 1 : Nat) : Int) := wrap64 (by omega)
      refine VCall.mk [0, 4] (s_NumF 0 1099511627776 T_uint8) ⟨rfl, rfl, rfl⟩ ?_
      rintro _ _ ⟨rfl, rfl⟩
      refine And.intro hi7 (Exists.intro _ (And.intro (vcells_put v 0 hi7 []) ?_))
      refine Exists.intro _ (And.intro hw ?_)
      exact Exists.intro ⟨i + 1 + 1, upv v ((i + 1 : Nat) : Int).toNat 0⟩ (Exists.intro [0, 1, 2, 3, 5] (And.intro ⟨by have := hi7.2; simp only; omega, by have := hi7.2; simp only; omega⟩ ⟨rfl, rfl, rfl⟩))
    · refine VCall.mk [0, 4] (s_Bad 0 0 0 true [] T_uint8) ⟨rfl, rfl, rfl⟩ ?_
      rintro _ _ ⟨rfl, rfl⟩
      refine And.intro (fun _ => ?_) (fun h => absurd h (by decide))
      exact VRet.mk [0, 1, 4] (.agg (vcells fun _ => 0)) [.cells (rdc 2 0 0 0 true) T_pack_Reader, .arr [] te, .arr [] T_uint8] ⟨rfl, rfl, rfl⟩ ⟨rfl, rfl⟩
theorem nT' {b : Bool} (h : (!b) = true) : b = false := by cases b <;> simp_all
theorem nF' {b : Bool} (h : (!b) = false) : b = true := by cases b <;> simp_all
def getRow (k : Int) (d : Int × Int) (v : Nat → Int) (r : Int) (nm us : ByteArray) (a b : Int × Int) (am fu : Int) : ST := ⟨k, d.1, d.2, v, r, nm, us, a.1, a.2, b.1, b.2, am, fu⟩
def getSt (l : List Int) : Option ST := (rdN l 0 7).bind fun p1 => (rdDot p1.2).bind fun p2 => (rdVs 7 p2.2).bind fun p3 => (rdN p3.2 0 1000).bind fun p4 => (rdText p4.2 80).bind fun p5 => (rdText p5.2 80).bind fun p6 => (rdDot p6.2).bind fun p7 => (rdDot p7.2).bind fun p8 => (rdN p8.2 0 1000000000).bind fun p9 => (rdN p9.2 0 1125899906842624).bind fun p10 =>
  if p10.2.length = 0 ∧ goodT (getRow p1.1 p2.1 p3.1 p4.1 p5.1 p6.1 p7.1 p8.1 p9.1 p10.1) = true then some (getRow p1.1 p2.1 p3.1 p4.1 p5.1 p6.1 p7.1 p8.1 p9.1 p10.1) else none
theorem rdText_size {l : List Int} {lim : Int} {s : ByteArray} {l' : List Int} (h : rdText l lim = some (s, l')) : (s.size : Int) ≤ lim := by
  unfold rdText at h
  split at h
  · cases h
  · rename_i n l2 hn
    split at h
    · cases h
    · cases h
      have := rdN_range hn
      rw [strOf_size, List.length_take]
      omega
def getV (o : Option ST) : SV := .tup [.agg (stcells (o.getD zeroT')), iv (bif o.isSome then 0 else 3)]
set_option maxHeartbeats 4000000 in
theorem s_gen_Get (h : Nat → Option Obj) (hu : Uni h) (l : List Int) (xs : List Value) (te : TypeId) (o c : Nat) (hb : Brow xs o c l) (hb0 : ∀ b ∈ l, 0 ≤ b ∧ b < 256) (hl0 : l.length ≤ 1000000) :
    Ctr Tryz.prog F_gen_Get [.sl 0 o l.length c] [.arr xs te, .heap h] (fun r H => r = getV (getSt l) ∧ H = [.arr xs te, .heap h]) := by
  have fin : ∀ (k : List SO), getSt l = none → VRet 2 (.tup [.agg (stcells zeroT'), iv 3]) ([.arr xs te, .heap h] ++ k) (fun r H => r = getV (getSt l) ∧ H = [.arr xs te, .heap h]) := by
    intro k e
    exact VRet.mk [0, 1] (.tup [.agg (stcells zeroT'), iv 3]) [.arr xs te, .heap h] ⟨rfl, rfl, rfl⟩ ⟨by rw [e]; rfl, rfl⟩
  refine i_gen_Get.spec follows ?_
  refine VCall.mk [0] (s_Read l xs te o c hb (Nat.le_trans hl0 (by decide))) ⟨rfl, rfl, rfl⟩ ?_
  rintro _ _ ⟨o0, c0, ys, rfl, rfl, hB0⟩
  refine VCall.mk [4, 3] (s_Num l 0 7 o0 c0 false ys T_uint8 hB0 hb0) ⟨rfl, rfl, rfl⟩ ?_
  rintro _ _ (⟨v1, l1, h1, rfl, o1, c1, rfl, hB1, hf1⟩ | ⟨h1, rfl, rfl⟩)
  rotate_left 1
  · refine VCall.mk [4, 6] (s_dotF T_uint8) ⟨rfl, rfl, rfl⟩ ?_
    rintro _ _ ⟨rfl, rfl⟩
    refine VCall.mk [4, 7] (s_vecF T_uint8) ⟨rfl, rfl, rfl⟩ ?_
    rintro _ _ ⟨rfl, rfl⟩
    refine VCall.mk [4, 8] (s_NumF 0 1000 T_uint8) ⟨rfl, rfl, rfl⟩ ?_
    rintro _ _ ⟨rfl, rfl⟩
    refine VCall.mk [4, 9] (s_TextF T_uint8 80 (by decide)) ⟨rfl, rfl, rfl⟩ ?_
    rintro _ _ ⟨rfl, rfl⟩
    refine VCall.mk [4, 10] (s_TextF T_uint8 80 (by decide)) ⟨rfl, rfl, rfl⟩ ?_
    rintro _ _ ⟨rfl, rfl⟩
    refine VCall.mk [4, 11] (s_dotF T_uint8) ⟨rfl, rfl, rfl⟩ ?_
    rintro _ _ ⟨rfl, rfl⟩
    refine VCall.mk [4, 12] (s_dotF T_uint8) ⟨rfl, rfl, rfl⟩ ?_
    rintro _ _ ⟨rfl, rfl⟩
    refine VCall.mk [4, 13] (s_NumF 0 1000000000 T_uint8) ⟨rfl, rfl, rfl⟩ ?_
    rintro _ _ ⟨rfl, rfl⟩
    refine VCall.mk [4, 14] (s_NumF 0 1125899906842624 T_uint8) ⟨rfl, rfl, rfl⟩ ?_
    rintro _ _ ⟨rfl, rfl⟩
    refine VCall.mk [4, 15] (s_End 0 0 0 true [] T_uint8) ⟨rfl, rfl, rfl⟩ ?_
    rintro _ _ ⟨rfl, rfl⟩
    refine And.intro (fun k => absurd k (by decide)) (fun _ => ?_)
    exact fin _ (by simp [getSt, h1])
  have hb1 : ∀ b ∈ l1, 0 ≤ b ∧ b < 256 := fun b hb => hb0 b (hf1.mem hb)
  have hl1 : l1.length ≤ 1000000 := Nat.le_trans hf1.length_le hl0
  refine VCall.mk [4, 3] (s_dot l1 o1 c1 ys T_uint8 hB1 hb1) ⟨rfl, rfl, rfl⟩ ?_
  rintro _ _ (⟨v2, l2, h2, rfl, o2, c2, rfl, hB2, hf2⟩ | ⟨h2, rfl, rfl⟩)
  rotate_left 1
  · refine VCall.mk [4, 6] (s_vecF T_uint8) ⟨rfl, rfl, rfl⟩ ?_
    rintro _ _ ⟨rfl, rfl⟩
    refine VCall.mk [4, 7] (s_NumF 0 1000 T_uint8) ⟨rfl, rfl, rfl⟩ ?_
    rintro _ _ ⟨rfl, rfl⟩
    refine VCall.mk [4, 8] (s_TextF T_uint8 80 (by decide)) ⟨rfl, rfl, rfl⟩ ?_
    rintro _ _ ⟨rfl, rfl⟩
    refine VCall.mk [4, 9] (s_TextF T_uint8 80 (by decide)) ⟨rfl, rfl, rfl⟩ ?_
    rintro _ _ ⟨rfl, rfl⟩
    refine VCall.mk [4, 10] (s_dotF T_uint8) ⟨rfl, rfl, rfl⟩ ?_
    rintro _ _ ⟨rfl, rfl⟩
    refine VCall.mk [4, 11] (s_dotF T_uint8) ⟨rfl, rfl, rfl⟩ ?_
    rintro _ _ ⟨rfl, rfl⟩
    refine VCall.mk [4, 12] (s_NumF 0 1000000000 T_uint8) ⟨rfl, rfl, rfl⟩ ?_
    rintro _ _ ⟨rfl, rfl⟩
    refine VCall.mk [4, 13] (s_NumF 0 1125899906842624 T_uint8) ⟨rfl, rfl, rfl⟩ ?_
    rintro _ _ ⟨rfl, rfl⟩
    refine VCall.mk [4, 14] (s_End 0 0 0 true [] T_uint8) ⟨rfl, rfl, rfl⟩ ?_
    rintro _ _ ⟨rfl, rfl⟩
    refine And.intro (fun k => absurd k (by decide)) (fun _ => ?_)
    exact fin _ (by simp [getSt, h1, h2])
  have hb2 : ∀ b ∈ l2, 0 ≤ b ∧ b < 256 := fun b hb => hb1 b (hf2.mem hb)
  have hl2 : l2.length ≤ 1000000 := Nat.le_trans hf2.length_le hl1
  refine VCall.mk [4, 3] (s_vec_Get l2 o2 c2 ys T_uint8 hB2 hb2) ⟨rfl, rfl, rfl⟩ ?_
  rintro _ _ (⟨v3, l3, h3, rfl, o3, c3, rfl, hB3, hf3⟩ | ⟨h3, rfl, rfl⟩)
  rotate_left 1
  · refine VCall.mk [4, 6] (s_NumF 0 1000 T_uint8) ⟨rfl, rfl, rfl⟩ ?_
    rintro _ _ ⟨rfl, rfl⟩
    refine VCall.mk [4, 7] (s_TextF T_uint8 80 (by decide)) ⟨rfl, rfl, rfl⟩ ?_
    rintro _ _ ⟨rfl, rfl⟩
    refine VCall.mk [4, 8] (s_TextF T_uint8 80 (by decide)) ⟨rfl, rfl, rfl⟩ ?_
    rintro _ _ ⟨rfl, rfl⟩
    refine VCall.mk [4, 9] (s_dotF T_uint8) ⟨rfl, rfl, rfl⟩ ?_
    rintro _ _ ⟨rfl, rfl⟩
    refine VCall.mk [4, 10] (s_dotF T_uint8) ⟨rfl, rfl, rfl⟩ ?_
    rintro _ _ ⟨rfl, rfl⟩
    refine VCall.mk [4, 11] (s_NumF 0 1000000000 T_uint8) ⟨rfl, rfl, rfl⟩ ?_
    rintro _ _ ⟨rfl, rfl⟩
    refine VCall.mk [4, 12] (s_NumF 0 1125899906842624 T_uint8) ⟨rfl, rfl, rfl⟩ ?_
    rintro _ _ ⟨rfl, rfl⟩
    refine VCall.mk [4, 13] (s_End 0 0 0 true [] T_uint8) ⟨rfl, rfl, rfl⟩ ?_
    rintro _ _ ⟨rfl, rfl⟩
    refine And.intro (fun k => absurd k (by decide)) (fun _ => ?_)
    exact fin _ (by simp [getSt, h1, h2, h3])
  have hb3 : ∀ b ∈ l3, 0 ≤ b ∧ b < 256 := fun b hb => hb2 b (hf3.mem hb)
  have hl3 : l3.length ≤ 1000000 := Nat.le_trans hf3.length_le hl2
  refine VCall.mk [4, 3] (s_Num l3 0 1000 o3 c3 false ys T_uint8 hB3 hb3) ⟨rfl, rfl, rfl⟩ ?_
  rintro _ _ (⟨v4, l4, h4, rfl, o4, c4, rfl, hB4, hf4⟩ | ⟨h4, rfl, rfl⟩)
  rotate_left 1
  · refine VCall.mk [4, 6] (s_TextF T_uint8 80 (by decide)) ⟨rfl, rfl, rfl⟩ ?_
    rintro _ _ ⟨rfl, rfl⟩
    refine VCall.mk [4, 7] (s_TextF T_uint8 80 (by decide)) ⟨rfl, rfl, rfl⟩ ?_
    rintro _ _ ⟨rfl, rfl⟩
    refine VCall.mk [4, 8] (s_dotF T_uint8) ⟨rfl, rfl, rfl⟩ ?_
    rintro _ _ ⟨rfl, rfl⟩
    refine VCall.mk [4, 9] (s_dotF T_uint8) ⟨rfl, rfl, rfl⟩ ?_
    rintro _ _ ⟨rfl, rfl⟩
    refine VCall.mk [4, 10] (s_NumF 0 1000000000 T_uint8) ⟨rfl, rfl, rfl⟩ ?_
    rintro _ _ ⟨rfl, rfl⟩
    refine VCall.mk [4, 11] (s_NumF 0 1125899906842624 T_uint8) ⟨rfl, rfl, rfl⟩ ?_
    rintro _ _ ⟨rfl, rfl⟩
    refine VCall.mk [4, 12] (s_End 0 0 0 true [] T_uint8) ⟨rfl, rfl, rfl⟩ ?_
    rintro _ _ ⟨rfl, rfl⟩
    refine And.intro (fun k => absurd k (by decide)) (fun _ => ?_)
    exact fin _ (by simp [getSt, h1, h2, h3, h4])
  have hb4 : ∀ b ∈ l4, 0 ≤ b ∧ b < 256 := fun b hb => hb3 b (hf4.mem hb)
  have hl4 : l4.length ≤ 1000000 := Nat.le_trans hf4.length_le hl3
  refine VCall.mk [4, 3] (s_Text l4 o4 c4 false ys T_uint8 80 (by decide) hB4 hb4 hl4) ⟨rfl, rfl, rfl⟩ ?_
  rintro _ _ (⟨v5, l5, h5, rfl, o5, c5, rfl, hB5, hf5⟩ | ⟨h5, rfl, rfl⟩)
  rotate_left 1
  · refine VCall.mk [4, 6] (s_TextF T_uint8 80 (by decide)) ⟨rfl, rfl, rfl⟩ ?_
    rintro _ _ ⟨rfl, rfl⟩
    refine VCall.mk [4, 7] (s_dotF T_uint8) ⟨rfl, rfl, rfl⟩ ?_
    rintro _ _ ⟨rfl, rfl⟩
    refine VCall.mk [4, 8] (s_dotF T_uint8) ⟨rfl, rfl, rfl⟩ ?_
    rintro _ _ ⟨rfl, rfl⟩
    refine VCall.mk [4, 9] (s_NumF 0 1000000000 T_uint8) ⟨rfl, rfl, rfl⟩ ?_
    rintro _ _ ⟨rfl, rfl⟩
    refine VCall.mk [4, 10] (s_NumF 0 1125899906842624 T_uint8) ⟨rfl, rfl, rfl⟩ ?_
    rintro _ _ ⟨rfl, rfl⟩
    refine VCall.mk [4, 11] (s_End 0 0 0 true [] T_uint8) ⟨rfl, rfl, rfl⟩ ?_
    rintro _ _ ⟨rfl, rfl⟩
    refine And.intro (fun k => absurd k (by decide)) (fun _ => ?_)
    exact fin _ (by simp [getSt, h1, h2, h3, h4, h5])
  have hb5 : ∀ b ∈ l5, 0 ≤ b ∧ b < 256 := fun b hb => hb4 b (hf5.mem hb)
  have hl5 : l5.length ≤ 1000000 := Nat.le_trans hf5.length_le hl4
  refine VCall.mk [4, 3] (s_Text l5 o5 c5 false ys T_uint8 80 (by decide) hB5 hb5 hl5) ⟨rfl, rfl, rfl⟩ ?_
  rintro _ _ (⟨v6, l6, h6, rfl, o6, c6, rfl, hB6, hf6⟩ | ⟨h6, rfl, rfl⟩)
  rotate_left 1
  · refine VCall.mk [4, 6] (s_dotF T_uint8) ⟨rfl, rfl, rfl⟩ ?_
    rintro _ _ ⟨rfl, rfl⟩
    refine VCall.mk [4, 7] (s_dotF T_uint8) ⟨rfl, rfl, rfl⟩ ?_
    rintro _ _ ⟨rfl, rfl⟩
    refine VCall.mk [4, 8] (s_NumF 0 1000000000 T_uint8) ⟨rfl, rfl, rfl⟩ ?_
    rintro _ _ ⟨rfl, rfl⟩
    refine VCall.mk [4, 9] (s_NumF 0 1125899906842624 T_uint8) ⟨rfl, rfl, rfl⟩ ?_
    rintro _ _ ⟨rfl, rfl⟩
    refine VCall.mk [4, 10] (s_End 0 0 0 true [] T_uint8) ⟨rfl, rfl, rfl⟩ ?_
    rintro _ _ ⟨rfl, rfl⟩
    refine And.intro (fun k => absurd k (by decide)) (fun _ => ?_)
    exact fin _ (by simp [getSt, h1, h2, h3, h4, h5, h6])
  have hb6 : ∀ b ∈ l6, 0 ≤ b ∧ b < 256 := fun b hb => hb5 b (hf6.mem hb)
  have hl6 : l6.length ≤ 1000000 := Nat.le_trans hf6.length_le hl5
  refine VCall.mk [4, 3] (s_dot l6 o6 c6 ys T_uint8 hB6 hb6) ⟨rfl, rfl, rfl⟩ ?_
  rintro _ _ (⟨v7, l7, h7, rfl, o7, c7, rfl, hB7, hf7⟩ | ⟨h7, rfl, rfl⟩)
  rotate_left 1
  · refine VCall.mk [4, 6] (s_dotF T_uint8) ⟨rfl, rfl, rfl⟩ ?_
    rintro _ _ ⟨rfl, rfl⟩
    refine VCall.mk [4, 7] (s_NumF 0 1000000000 T_uint8) ⟨rfl, rfl, rfl⟩ ?_
    rintro _ _ ⟨rfl, rfl⟩
    refine VCall.mk [4, 8] (s_NumF 0 1125899906842624 T_uint8) ⟨rfl, rfl, rfl⟩ ?_
    rintro _ _ ⟨rfl, rfl⟩
    refine VCall.mk [4, 9] (s_End 0 0 0 true [] T_uint8) ⟨rfl, rfl, rfl⟩ ?_
    rintro _ _ ⟨rfl, rfl⟩
    refine And.intro (fun k => absurd k (by decide)) (fun _ => ?_)
    exact fin _ (by simp [getSt, h1, h2, h3, h4, h5, h6, h7])
  have hb7 : ∀ b ∈ l7, 0 ≤ b ∧ b < 256 := fun b hb => hb6 b (hf7.mem hb)
  have hl7 : l7.length ≤ 1000000 := Nat.le_trans hf7.length_le hl6
  refine VCall.mk [4, 3] (s_dot l7 o7 c7 ys T_uint8 hB7 hb7) ⟨rfl, rfl, rfl⟩ ?_
  rintro _ _ (⟨v8, l8, h8, rfl, o8, c8, rfl, hB8, hf8⟩ | ⟨h8, rfl, rfl⟩)
  rotate_left 1
  · refine VCall.mk [4, 6] (s_NumF 0 1000000000 T_uint8) ⟨rfl, rfl, rfl⟩ ?_
    rintro _ _ ⟨rfl, rfl⟩
    refine VCall.mk [4, 7] (s_NumF 0 1125899906842624 T_uint8) ⟨rfl, rfl, rfl⟩ ?_
    rintro _ _ ⟨rfl, rfl⟩
    refine VCall.mk [4, 8] (s_End 0 0 0 true [] T_uint8) ⟨rfl, rfl, rfl⟩ ?_
    rintro _ _ ⟨rfl, rfl⟩
    refine And.intro (fun k => absurd k (by decide)) (fun _ => ?_)
    exact fin _ (by simp [getSt, h1, h2, h3, h4, h5, h6, h7, h8])
  have hb8 : ∀ b ∈ l8, 0 ≤ b ∧ b < 256 := fun b hb => hb7 b (hf8.mem hb)
  have hl8 : l8.length ≤ 1000000 := Nat.le_trans hf8.length_le hl7
  refine VCall.mk [4, 3] (s_Num l8 0 1000000000 o8 c8 false ys T_uint8 hB8 hb8) ⟨rfl, rfl, rfl⟩ ?_
  rintro _ _ (⟨v9, l9, h9, rfl, o9, c9, rfl, hB9, hf9⟩ | ⟨h9, rfl, rfl⟩)
  rotate_left 1
  · refine VCall.mk [4, 6] (s_NumF 0 1125899906842624 T_uint8) ⟨rfl, rfl, rfl⟩ ?_
    rintro _ _ ⟨rfl, rfl⟩
    refine VCall.mk [4, 7] (s_End 0 0 0 true [] T_uint8) ⟨rfl, rfl, rfl⟩ ?_
    rintro _ _ ⟨rfl, rfl⟩
    refine And.intro (fun k => absurd k (by decide)) (fun _ => ?_)
    exact fin _ (by simp [getSt, h1, h2, h3, h4, h5, h6, h7, h8, h9])
  have hb9 : ∀ b ∈ l9, 0 ≤ b ∧ b < 256 := fun b hb => hb8 b (hf9.mem hb)
  have hl9 : l9.length ≤ 1000000 := Nat.le_trans hf9.length_le hl8
  refine VCall.mk [4, 3] (s_Num l9 0 1125899906842624 o9 c9 false ys T_uint8 hB9 hb9) ⟨rfl, rfl, rfl⟩ ?_
  rintro _ _ (⟨v10, l10, h10, rfl, o10, c10, rfl, hB10, hf10⟩ | ⟨h10, rfl, rfl⟩)
  rotate_left 1
  · refine VCall.mk [4, 6] (s_End 0 0 0 true [] T_uint8) ⟨rfl, rfl, rfl⟩ ?_
    rintro _ _ ⟨rfl, rfl⟩
    refine And.intro (fun k => absurd k (by decide)) (fun _ => ?_)
    exact fin _ (by simp [getSt, h1, h2, h3, h4, h5, h6, h7, h8, h9, h10])
  have hb10 : ∀ b ∈ l10, 0 ≤ b ∧ b < 256 := fun b hb => hb9 b (hf10.mem hb)
  have hl10 : l10.length ≤ 1000000 := Nat.le_trans hf10.length_le hl9
  refine VCall.mk [4, 3] (s_End o10 l10.length c10 false ys T_uint8) ⟨rfl, rfl, rfl⟩ ?_
  rintro _ _ ⟨rfl, rfl⟩
  have hall : getSt l = if l10.length = 0 ∧ goodT (getRow v1 v2 v3 v4 v5 v6 v7 v8 v9 v10) = true then some (getRow v1 v2 v3 v4 v5 v6 v7 v8 v9 v10) else none := by
    simp only [getSt, h1, h2, h3, h4, h5, h6, h7, h8, h9, h10, Option.bind_some]
  refine And.intro (fun k => ?_) (fun k => ?_)
  rotate_left 1
  · exact fin _ (by rw [hall, if_neg]; rintro ⟨e, _⟩; rw [e] at k; exact absurd k (by decide))
  have e : l10.length = 0 := by simpa using k
  have s5 := rdText_size h5
  have s6 := rdText_size h6
  refine VCall.mk [1] (s_Good h hu (getRow v1 v2 v3 v4 v5 v6 v7 v8 v9 v10) (show v5.size ≤ _ by omega) (show v6.size ≤ _ by omega)) ⟨rfl, rfl, rfl⟩ ?_
  rintro _ _ ⟨rfl, rfl⟩
  refine And.intro (fun k2 => ?_) (fun k2 => ?_)
  · have k2 := nT' k2
    exact fin _ (by rw [hall, if_neg]; rintro ⟨_, e⟩; rw [k2] at e; cases e)
  · have k2 := nF' k2
    rw [if_pos ⟨e, k2⟩] at hall
    exact VRet.mk [0, 1] (.tup [.agg (stcells (getRow v1 v2 v3 v4 v5 v6 v7 v8 v9 v10)), iv 0]) [.arr xs te, .heap h] ⟨rfl, rfl, rfl⟩ ⟨by rw [hall]; rfl, rfl⟩
end Go.Proofs

namespace Go.Proofs
open Go Go.V Go.Lib
set_option maxRecDepth 100000
set_option linter.unusedVariables false

def genP (s : ST) : List Int := bif goodT s then putB s else []
theorem s_gen_Put (h : Nat → Option Obj) (hu : Uni h) (s : ST) (z1 : s.name.size ≤ 1000) (z2 : s.user.size ≤ 1000) :
    Ctr Tryz.prog F_gen_Put [.agg (stcells s)] [.heap h] (fun x H => ∃ o' c' ys, x = .sl 1 o' (genP s).length c' ∧ H = [.heap h, .arr ys T_uint8] ∧ Brow ys o' c' (genP s)) := by
  refine i_gen_Put.spec follows ?_
  refine VCall.mk [0] (s_Good h hu s (Nat.le_trans z1 (by decide)) (Nat.le_trans z2 (by decide))) ⟨rfl, rfl, rfl⟩ ?_
  rintro _ _ ⟨rfl, rfl⟩
  refine And.intro (fun k => ?_) (fun k => ?_)
  · have k := nT' k
    refine VRet.nil T_uint8 [0] [] ⟨rfl, rfl⟩ (VRet.mk [0, 2] (.sl 1 0 0 0) [.heap h, .arr [] T_uint8] ⟨rfl, rfl, rfl⟩ ⟨0, 0, [], ?_, rfl, ?_⟩)
    · rw [genP, k]; rfl
    · rw [genP, k]; exact brow_nil
  have k := nF' k
  have hs := good_sm k z1 z2
  have hgp : genP s = putB s := by rw [genP, k]; rfl
  rw [hgp]
  have h1 := zB_len (v := s.kind) (by have := hs.k; omega)
  have h2 := zB_len (v := s.rep) (by have := hs.r; omega)
  have h3 := zB_len (v := s.n) (by have := hs.n; omega)
  have h4 := vecB_len hs.v 7 (by omega)
  have h5 := zB_len (v := s.reds) (by have := hs.reds; omega)
  have h6 := textB_len hs.nm
  have h7 := textB_len hs.us
  refine VCall.nil T_uint8 [0] [] ⟨rfl, rfl⟩ (VCall.mk [2] (s_pack_Num [] [] T_uint8 0 0 brow_nil (by simp) s.kind (by have := hs.k; omega)) ⟨rfl, rfl, rfl⟩ ?_)
  rintro _ _ ⟨o1, c1, y1, rfl, rfl, b1⟩
  refine And.intro rfl ?_
  refine And.intro rfl ?_
  refine VCall.mk [3] (s_pack_Num ([] ++ zB s.kind) y1 T_uint8 o1 c1 b1 (by simp only [List.length_append, List.length_nil]; omega) s.rep (by have := hs.r; omega)) ⟨rfl, rfl, rfl⟩ ?_
  rintro _ _ ⟨o2, c2, y2, rfl, rfl, b2⟩
  refine And.intro rfl ?_
  refine VCall.mk [4] (s_pack_Num (([] ++ zB s.kind) ++ zB s.rep) y2 T_uint8 o2 c2 b2 (by simp only [List.length_append, List.length_nil]; omega) s.n (by have := hs.n; omega)) ⟨rfl, rfl, rfl⟩ ?_
  rintro _ _ ⟨o3, c3, y3, rfl, rfl, b3⟩
  refine VCall.mk [5] (s_vec_Put ((([] ++ zB s.kind) ++ zB s.rep) ++ zB s.n) y3 T_uint8 o3 c3 b3 (by simp only [List.length_append, List.length_nil]; omega) s.seen hs.v) ⟨rfl, rfl, rfl⟩ ?_
  rintro _ _ ⟨o4, c4, y4, rfl, rfl, b4⟩
  refine And.intro rfl ?_
  refine VCall.mk [6] (s_pack_Num (((([] ++ zB s.kind) ++ zB s.rep) ++ zB s.n) ++ vecB s.seen 7) y4 T_uint8 o4 c4 b4 (by simp only [List.length_append, List.length_nil]; omega) s.reds (by have := hs.reds; omega)) ⟨rfl, rfl, rfl⟩ ?_
  rintro _ _ ⟨o5, c5, y5, rfl, rfl, b5⟩
  refine VCall.mk [7] (s_pack_Text ((((([] ++ zB s.kind) ++ zB s.rep) ++ zB s.n) ++ vecB s.seen 7) ++ zB s.reds) s.name y5 T_uint8 o5 c5 b5 (by simp only [List.length_append, List.length_nil]; omega) hs.nm) ⟨rfl, rfl, rfl⟩ ?_
  rintro _ _ ⟨o6, c6, y6, rfl, rfl, b6⟩
  refine And.intro rfl ?_
  refine VCall.mk [8] (s_pack_Text (((((([] ++ zB s.kind) ++ zB s.rep) ++ zB s.n) ++ vecB s.seen 7) ++ zB s.reds) ++ textB s.name) s.user y6 T_uint8 o6 c6 b6 (by simp only [List.length_append, List.length_nil]; omega) hs.us) ⟨rfl, rfl, rfl⟩ ?_
  rintro _ _ ⟨o7, c7, y7, rfl, rfl, b7⟩
  have hL0 : (((((((([] ++ zB s.kind) ++ zB s.rep) ++ zB s.n) ++ vecB s.seen 7) ++ zB s.reds) ++ textB s.name) ++ textB s.user)).length ≤ 0 + 2130 := by simp only [List.length_append, List.length_nil]; omega
  have hcur : ∃ L0, L0 = ((((((([] ++ zB s.kind) ++ zB s.rep) ++ zB s.n) ++ vecB s.seen 7) ++ zB s.reds) ++ textB s.name) ++ textB s.user) := ⟨_, rfl⟩
  refine VLoop.mk BX (fun y => [(1, .ptr 1 0), (3, .sl 3 y.o y.l.length y.c), (38, .sl 2 0 2 2), (39, iv 2), (40, iv (y.u : Nat))])
    (fun y => [.heap h, .cells (stcells s) T_auct_Step, .arr [.int .i64 s.ar, .int .i64 s.an, .int .i64 s.br, .int .i64 s.bn] T_api_Dot, .arr y.xs T_uint8])
    (fun y => Brow y.xs y.o y.c y.l ∧ y.u ≤ 2 ∧ y.l = ((((((([] ++ zB s.kind) ++ zB s.rep) ++ zB s.n) ++ vecB s.seen 7) ++ zB s.reds) ++ textB s.name) ++ textB s.user) ++ ptsB s y.u) (fun y => 2 - y.u) ⟨y7, o7, c7, ((((((([] ++ zB s.kind) ++ zB s.rep) ++ zB s.n) ++ vecB s.seen 7) ++ zB s.reds) ++ textB s.name) ++ textB s.user), 0⟩ [0, 1, 10, 9]
    ⟨⟨b7, Nat.zero_le _, by simp [ptsB]⟩, rfl, rfl, rfl⟩ ?_
  have hp1 := zB_len (v := s.ar) (by have := hs.ar; omega)
  have hp2 := zB_len (v := s.an) (by have := hs.an; omega)
  have hp3 := zB_len (v := s.br) (by have := hs.br; omega)
  have hp4 := zB_len (v := s.bn) (by have := hs.bn; omega)
  clear b1 b2 b3 b4 b5 b6 b7
  rintro ⟨ys, o8, c8, l8, i⟩ ⟨hb8, hi, hl8⟩ g
  simp only at hb8 hi hl8
  have hll := congrArg List.length hl8
  match i, hi with
  | 0, _ =>
    have hll : l8.length ≤ 0 + 2130 := by rw [hll, List.length_append]; simp only [ptsB, List.length_nil, List.length_append]; omega
    refine And.intro (fun _ => ?_) (fun h => absurd h (show ¬ decide (((0 : Nat) : Int) < 2) = false by decide))
    refine And.intro ⟨show (0 : Int) ≤ ((0 : Nat) : Int) by decide, show ((0 : Nat) : Int) < ((2 : Nat) : Int) by decide, Nat.le_refl 4⟩ (Exists.intro _ (And.intro rfl ?_))
    refine VCall.mk [3] (s_pack_Num l8 ys T_uint8 o8 c8 hb8 (by omega) s.ar (by have := hs.ar; omega)) ⟨rfl, rfl, rfl⟩ ?_
    rintro _ _ ⟨o9, c9, y9, rfl, rfl, b9⟩
    refine And.intro rfl ?_
    refine VCall.mk [5] (s_pack_Num (l8 ++ zB s.ar) y9 T_uint8 o9 c9 b9 (by rw [List.length_append]; omega) s.an (by have := hs.an; omega)) ⟨rfl, rfl, rfl⟩ ?_
    rintro _ _ ⟨o10, c10, y10, rfl, rfl, b10⟩
    refine Exists.intro _ (And.intro (show IntKind.i64.wrap (((0 : Nat) : Int) + 1) = ((1 : Nat) : Int) by decide) ?_)
    refine Exists.intro ⟨y10, o10, c10, l8 ++ zB s.ar ++ zB s.an, 1⟩ (Exists.intro [0, 1, 2, 6] (And.intro ⟨⟨b10, show 1 ≤ 2 by decide, ?_⟩, show 2 - 1 < 2 - 0 by decide⟩ ⟨rfl, rfl, rfl⟩))
    simp only
    rw [hl8]
    simp only [ptsB, List.append_assoc, List.append_nil, List.nil_append]
  | 1, _ =>
    have hll : l8.length ≤ 0 + 2150 := by rw [hll, List.length_append]; simp only [ptsB, List.length_nil, List.length_append]; omega
    refine And.intro (fun _ => ?_) (fun h => absurd h (show ¬ decide (((1 : Nat) : Int) < 2) = false by decide))
    refine And.intro ⟨show (0 : Int) ≤ ((1 : Nat) : Int) by decide, show ((1 : Nat) : Int) < ((2 : Nat) : Int) by decide, Nat.le_refl 4⟩ (Exists.intro _ (And.intro rfl ?_))
    refine VCall.mk [3] (s_pack_Num l8 ys T_uint8 o8 c8 hb8 (by omega) s.br (by have := hs.br; omega)) ⟨rfl, rfl, rfl⟩ ?_
    rintro _ _ ⟨o9, c9, y9, rfl, rfl, b9⟩
    refine And.intro rfl ?_
    refine VCall.mk [5] (s_pack_Num (l8 ++ zB s.br) y9 T_uint8 o9 c9 b9 (by rw [List.length_append]; omega) s.bn (by have := hs.bn; omega)) ⟨rfl, rfl, rfl⟩ ?_
    rintro _ _ ⟨o10, c10, y10, rfl, rfl, b10⟩
    refine Exists.intro _ (And.intro (show IntKind.i64.wrap (((1 : Nat) : Int) + 1) = ((2 : Nat) : Int) by decide) ?_)
    refine Exists.intro ⟨y10, o10, c10, l8 ++ zB s.br ++ zB s.bn, 2⟩ (Exists.intro [0, 1, 2, 6] (And.intro ⟨⟨b10, show 2 ≤ 2 by decide, ?_⟩, show 2 - 2 < 2 - 1 by decide⟩ ⟨rfl, rfl, rfl⟩))
    simp only
    rw [hl8]
    simp only [ptsB, List.append_assoc, List.append_nil, List.nil_append]
  | 2, _ =>
    have hll : l8.length ≤ 0 + 2170 := by rw [hll, List.length_append]; simp only [ptsB, List.length_append, List.length_nil]; omega
    have hp5 := zB_len (v := s.amount) (by have := hs.am; omega)
    refine And.intro (fun h => absurd h (show ¬ decide (((2 : Nat) : Int) < 2) = true by decide)) (fun _ => ?_)
    refine VCall.mk [3] (s_pack_Num l8 ys T_uint8 o8 c8 hb8 (by omega) s.amount (by have := hs.am; omega)) ⟨rfl, rfl, rfl⟩ ?_
    rintro _ _ ⟨o9, c9, y9, rfl, rfl, b9⟩
    refine And.intro rfl ?_
    refine VCall.mk [4] (s_pack_Num (l8 ++ zB s.amount) y9 T_uint8 o9 c9 b9 (by rw [List.length_append]; omega) s.funds (by have := hs.fu; omega)) ⟨rfl, rfl, rfl⟩ ?_
    rintro _ _ ⟨o10, c10, y10, rfl, rfl, b10⟩
    have e : l8 ++ zB s.amount ++ zB s.funds = putB s := by
      rw [hl8]
      simp only [ptsB, putB, List.append_assoc, List.nil_append]
    have b11 : Brow y10 o10 c10 (l8 ++ zB s.amount ++ zB s.funds) := b10
    rw [e] at b11
    refine VRet.mk [0, 5] (.sl 1 o10 (l8 ++ zB s.amount ++ zB s.funds).length c10) [.heap h, .arr y10 T_uint8] ⟨rfl, rfl, rfl⟩ ⟨o10, c10, y10, by rw [e], rfl, b11⟩
end Go.Proofs

namespace Go.Proofs
open Go Go.V Go.Lib
set_option maxRecDepth 100000
set_option linter.unusedVariables false

/-! ### Is it in the row? -/
theorem wrapM {i n : Nat} (h : i < n) (hn : n ≤ 1000000) : IntKind.i64.wrap ((i : Int) + 1) = ((i + 1 : Nat) : Int) := wrap64 (by omega)
theorem subM {i n : Nat} (h : i < n) : n - (i + 1) < n - i := by omega
theorem s_IndexDot (l : List (Int × Int)) (hl : l.length ≤ 1000000) (xs : List Value) (o c : Nat) (hr : RowG dcl 2 xs o c l) (d : Int × Int) :
    Ctr Tryz.prog F_slices_Index_sl_api_Dot_api_Dot [.sl 0 o l.length c, .agg (dcells d.1 d.2)] [.arr xs T_api_Dot] (fun r H => ((∃ i : Nat, r = iv i ∧ d ∈ l) ∨ (r = iv (-1) ∧ d ∉ l)) ∧ H = [.arr xs T_api_Dot]) := by
  refine i_slices_Index_sl_api_Dot_api_Dot.spec follows ?_
  refine VLoop.mk Nat (fun i => [(0, .sl 0 o l.length c), (3, .ptr 1 0), (7, iv l.length), (8, iv i)]) (fun _ => [.arr xs T_api_Dot, .cells (dcells d.1 d.2) T_api_Dot]) (fun i => i ≤ l.length ∧ ∀ k (hk : k < l.length), k < i → l[k] ≠ d) (fun i => l.length - i) 0 [0, 1]
    ⟨⟨Nat.zero_le _, fun k _ hk => absurd hk (Nat.not_lt_zero k)⟩, rfl, rfl, rfl⟩ ?_
  rintro i ⟨hi, hno⟩ g
  refine And.intro (fun t1 => ?_) (fun t1 => ?_)
  · have t1 : (i : Int) < (l.length : Nat) := of_decide_eq_true t1
    have hil : i < l.length := Int.ofNat_lt.1 t1
    have hwi := wrapM hil hl
    have hx := hr.cut (fun _ => rfl) hil
    refine And.intro ⟨Int.natCast_nonneg i, t1, RowG.room hr⟩ (Exists.intro _ (And.intro (by rw [Int.toNat_natCast]; exact hx) ?_))
    refine And.intro (fun t2 => ?_) (fun t2 => ?_)
    · have t2 : (decide (d.1 = l[i].1) && decide (d.2 = l[i].2)) = true := t2
      simp only [Bool.and_eq_true, decide_eq_true_eq] at t2
      have e : d = l[i] := Prod.ext t2.1 t2.2
      exact VRet.mk [0] (iv i) [.arr xs T_api_Dot] ⟨rfl, rfl, rfl⟩ ⟨.inl ⟨i, rfl, e ▸ List.getElem_mem hil⟩, rfl⟩
    · have t2 : (decide (d.1 = l[i].1) && decide (d.2 = l[i].2)) = false := t2
      refine Exists.intro _ (And.intro hwi ?_)
      refine Exists.intro (i + 1) (Exists.intro [0, 1] (And.intro ⟨⟨hil, fun k hkl hk1 => ?_⟩, subM hil⟩ ⟨rfl, rfl, rfl⟩))
      by_cases e : k = i
      · subst e; intro h; rw [h] at t2; simp at t2
      · exact hno k hkl (by omega)
  · have hil : i = l.length := Nat.le_antisymm hi (Int.ofNat_le.1 (Int.not_lt.1 (of_decide_eq_false t1)))
    refine VRet.mk [0] (iv (-1)) [.arr xs T_api_Dot] ⟨rfl, rfl, rfl⟩ ⟨.inr ⟨rfl, fun h => ?_⟩, rfl⟩
    obtain ⟨k, hkl, rfl⟩ := List.mem_iff_getElem.1 h
    exact hno k hkl (by omega) rfl
theorem s_HasDot (l : List (Int × Int)) (hl : l.length ≤ 1000000) (xs : List Value) (o c : Nat) (hr : RowG dcl 2 xs o c l) (d : Int × Int) :
    Ctr Tryz.prog F_slices_Contains_sl_api_Dot_api_Dot [.sl 0 o l.length c, .agg (dcells d.1 d.2)] [.arr xs T_api_Dot] (fun r H => r = bv (decide (d ∈ l)) ∧ H = [.arr xs T_api_Dot]) := by
  refine i_slices_Contains_sl_api_Dot_api_Dot.spec follows ?_
  refine VCall.mk [0] (s_IndexDot l hl xs o c hr d) ⟨rfl, rfl, rfl⟩ ?_
  rintro _ _ ⟨⟨i, rfl, h⟩ | ⟨rfl, h⟩, rfl⟩
  · exact VRet.mk [0] (bv (decide ((0 : Int) ≤ (i : Int)))) [.arr xs T_api_Dot] ⟨rfl, rfl, rfl⟩ ⟨by rw [decide_eq_true h, decide_eq_true (Int.natCast_nonneg i)], rfl⟩
  · exact VRet.mk [0] (bv (decide ((0 : Int) ≤ -1))) [.arr xs T_api_Dot] ⟨rfl, rfl, rfl⟩ ⟨by rw [decide_eq_false h]; rfl, rfl⟩
theorem s_IndexStr (l : List ByteArray) (hl : l.length ≤ 1000000) (xs : List Value) (o c : Nat) (hr : RowG bcl 1 xs o c l) (f : ByteArray) :
    Ctr Tryz.prog F_slices_Index_sl_string_string [.sl 0 o l.length c, .raw (.string f)] [.arr xs T_string] (fun r H => ((∃ i : Nat, r = iv i ∧ f ∈ l) ∨ (r = iv (-1) ∧ f ∉ l)) ∧ H = [.arr xs T_string]) := by
  refine i_slices_Index_sl_string_string.spec follows ?_
  refine VLoop.mk Nat (fun i => [(0, .sl 0 o l.length c), (1, .raw (.string f)), (7, iv l.length), (8, iv i)]) (fun _ => [.arr xs T_string]) (fun i => i ≤ l.length ∧ ∀ k (hk : k < l.length), k < i → l[k] ≠ f) (fun i => l.length - i) 0 [0]
    ⟨⟨Nat.zero_le _, fun k _ hk => absurd hk (Nat.not_lt_zero k)⟩, rfl, rfl, rfl⟩ ?_
  rintro i ⟨hi, hno⟩ g
  refine And.intro (fun t1 => ?_) (fun t1 => ?_)
  · have t1 : (i : Int) < (l.length : Nat) := of_decide_eq_true t1
    have hil : i < l.length := Int.ofNat_lt.1 t1
    have hwi := wrapM hil hl
    have hx := RowG.one hr (fun _ => rfl) hil
    refine And.intro ⟨Int.natCast_nonneg i, t1, RowG.room hr⟩ (Exists.intro _ (And.intro (by rw [Int.toNat_natCast]; exact hx) ?_))
    refine And.intro (fun t2 => ?_) (fun t2 => ?_)
    · rw [strB] at t2
      have t2 : f = l[i] := of_decide_eq_true t2
      exact VRet.mk [0] (iv i) [.arr xs T_string] ⟨rfl, rfl, rfl⟩ ⟨.inl ⟨i, rfl, t2 ▸ List.getElem_mem hil⟩, rfl⟩
    · rw [strB] at t2
      have t2 : ¬ f = l[i] := of_decide_eq_false t2
      refine Exists.intro _ (And.intro hwi ?_)
      refine Exists.intro (i + 1) (Exists.intro [0] (And.intro ⟨⟨hil, fun k hkl hk1 => ?_⟩, subM hil⟩ ⟨rfl, rfl, rfl⟩))
      by_cases e : k = i
      · subst e; exact fun h => t2 h.symm
      · exact hno k hkl (by omega)
  · have hil : i = l.length := Nat.le_antisymm hi (Int.ofNat_le.1 (Int.not_lt.1 (of_decide_eq_false t1)))
    refine VRet.mk [0] (iv (-1)) [.arr xs T_string] ⟨rfl, rfl, rfl⟩ ⟨.inr ⟨rfl, fun h => ?_⟩, rfl⟩
    obtain ⟨k, hkl, rfl⟩ := List.mem_iff_getElem.1 h
    exact hno k hkl (by omega) rfl
def inB (f : ByteArray) (l : List ByteArray) : Bool := l.any fun t => decide (t = f)
theorem inB_iff {f : ByteArray} {l : List ByteArray} : inB f l = true ↔ f ∈ l := by
  unfold inB
  rw [List.any_eq_true]
  constructor
  · rintro ⟨t, ht, e⟩
    rw [decide_eq_true_eq] at e
    subst e; exact ht
  · exact fun h => ⟨f, h, by simp⟩
theorem s_HasStr (l : List ByteArray) (hl : l.length ≤ 1000000) (xs : List Value) (o c : Nat) (hr : RowG bcl 1 xs o c l) (f : ByteArray) :
    Ctr Tryz.prog F_slices_Contains_sl_string_string [.sl 0 o l.length c, .raw (.string f)] [.arr xs T_string] (fun r H => r = bv (inB f l) ∧ H = [.arr xs T_string]) := by
  refine i_slices_Contains_sl_string_string.spec follows ?_
  refine VCall.mk [0] (s_IndexStr l hl xs o c hr f) ⟨rfl, rfl, rfl⟩ ?_
  rintro _ _ ⟨⟨i, rfl, h⟩ | ⟨rfl, h⟩, rfl⟩
  · exact VRet.mk [0] (bv (decide ((0 : Int) ≤ (i : Int)))) [.arr xs T_string] ⟨rfl, rfl, rfl⟩ ⟨by rw [inB_iff.2 h, decide_eq_true (Int.natCast_nonneg i)], rfl⟩
  · exact VRet.mk [0] (bv (decide ((0 : Int) ≤ -1))) [.arr xs T_string] ⟨rfl, rfl, rfl⟩ ⟨by rw [Bool.eq_false_iff.2 fun e => h (inB_iff.1 e)]; rfl, rfl⟩
theorem users_m {us : MU} {d : List (List UInt8)} (hU : UsL us d) {xs : List Value} {o c : Nat} (hr : RowG scl 1 xs o c d) : ∃ m : List ByteArray, RowG bcl 1 xs o c m ∧ m.length = us.length ∧ ∀ f, f ∈ m ↔ (MP.get us f).isSome = true := by
  refine ⟨d.map fun t => ⟨t.toArray⟩, ⟨by rw [List.length_map]; exact hr.1, hr.2.1, ?_⟩, by rw [List.length_map, hU.1.length_eq, List.length_map], fun f => ?_⟩
  · rw [List.length_map, hr.2.2, List.flatMap_map]; rfl
  · rw [List.mem_map]
    constructor
    · rintro ⟨t, ht, rfl⟩
      have h1 := (hU.1.mem_iff).1 ht
      obtain ⟨e, he, rfl⟩ := List.mem_map.1 h1
      exact get_mem.2 (List.mem_map.2 ⟨e, he, rfl⟩)
    · intro h
      obtain ⟨e, he, rfl⟩ := List.mem_map.1 (get_mem.1 h)
      exact ⟨ktx e, (hU.1.mem_iff).2 (List.mem_map.2 ⟨e, he, rfl⟩), rfl⟩
/-! ### Why a step is refused -/
def usrE (x : HL) (f : ByteArray) : Int := bif (MP.get x.us f).isSome then 0 else 4
def aucE (x : HL) (d : Int × Int) : Int := bif decide (d ∈ aucF x) then (bif openF x d then 0 else 12) else 4
def canF (x : HL) (b : Int × Int) : Int := match (aucF x).find? fun d => decide (b ∈ bidsF x.bs d x.v) with
  | none => 4
  | some d => aucE x d
theorem s_user (h : Nat → Option Obj) (hc : CaseH h) (x : HL) (N : Nat) (hx : HI x N) (hN : N ≤ 1000000) (rx : List Value) (ro rc : Nat) (s : ST) (hu : s.user.size ≤ 100000000) :
    Ctr Tryz.prog F_gen_maker_user [.agg (.ptr 0 0 :: stcells s)] (hoH x rx ro rc ++ [.heap h]) (fun r H => r = iv (usrE x (foldB s.user)) ∧ H = hoH x rx ro rc ++ [.heap h]) := by
  refine i_gen_maker_user.spec follows ?_
  refine VCall.mk [0, 1, 2, 3, 4, 5] (s_Users x N hx hN rx ro rc) ⟨rfl, rfl, rfl⟩ ?_
  rintro _ _ ⟨d, xs, o, c, hU, rfl, rfl, hr⟩
  have hm := users_m hU hr
  obtain ⟨m, hm1, hm2, hm3⟩ := hm
  have hC := s_HasStr m (by rw [hm2]; exact Nat.le_trans hx.ul hN) xs o c hm1 (foldB s.user)
  rw [hm2] at hC
  refine And.intro rfl ?_
  refine VCall.mk [6] (s_name_Fold h hc s.user hu) ⟨rfl, rfl, rfl⟩ ?_
  rintro _ _ ⟨rfl, rfl⟩
  refine VCall.mk [8] hC ⟨rfl, rfl, rfl⟩ ?_
  rintro _ _ ⟨rfl, rfl⟩
  refine And.intro (fun k => ?_) (fun k => ?_)
  · have k := nT' k
    refine VRet.mk [0, 1, 2, 3, 4, 5, 6] (iv 4) (hoH x rx ro rc ++ [.heap h]) ⟨rfl, rfl, rfl⟩ ⟨?_, rfl⟩
    rw [usrE, show (MP.get x.us (foldB s.user)).isSome = false from Bool.eq_false_iff.2 fun e => Bool.eq_false_iff.1 k (inB_iff.2 ((hm3 _).2 e))]; rfl
  · have k := inB_iff.1 (nF' k)
    refine VRet.mk [0, 1, 2, 3, 4, 5, 6] (iv 0) (hoH x rx ro rc ++ [.heap h]) ⟨rfl, rfl, rfl⟩ ⟨?_, rfl⟩
    rw [usrE, (hm3 _).1 k]; rfl
theorem s_auction (h : Nat → Option Obj) (x : HL) (N : Nat) (hx : HI x N) (hN : N ≤ 1000000) (rx : List Value) (ro rc : Nat) (s : ST) (d : Int × Int) :
    Ctr Tryz.prog F_gen_maker_auction [.agg (.ptr 0 0 :: stcells s), .agg (dcells d.1 d.2)] (hoH x rx ro rc ++ [.heap h]) (fun r H => r = iv (aucE x d) ∧ H = hoH x rx ro rc ++ [.heap h]) := by
  refine i_gen_maker_auction.spec follows ?_
  refine VCall.mk [0, 1, 2, 3, 4, 5] (s_Auctions x N hx hN rx ro rc) ⟨rfl, rfl, rfl⟩ ?_
  rintro _ _ ⟨xs, o, c, rfl, rfl, hr, hal⟩
  refine And.intro rfl ?_
  refine VCall.mk [9] (s_HasDot (aucF x) (Nat.le_trans hal hN) xs o c hr d) ⟨rfl, rfl, rfl⟩ ?_
  rintro _ _ ⟨rfl, rfl⟩
  refine And.intro (fun k => ?_) (fun k => ?_)
  · have k := nT' k
    exact VRet.mk [0, 1, 2, 3, 4, 5, 6] (iv 4) (hoH x rx ro rc ++ [.heap h]) ⟨rfl, rfl, rfl⟩ ⟨by rw [aucE, k]; rfl, rfl⟩
  · have k := nF' k
    refine VCall.mk [0, 1, 2, 3, 4, 5] (s_Open x rx ro rc d) ⟨rfl, rfl, rfl⟩ ?_
    rintro _ _ ⟨rfl, rfl⟩
    refine And.intro (fun k2 => ?_) (fun k2 => ?_)
    · have k2 := nT' k2
      exact VRet.mk [0, 1, 2, 3, 4, 5, 6] (iv 12) (hoH x rx ro rc ++ [.heap h]) ⟨rfl, rfl, rfl⟩ ⟨by rw [aucE, k, k2]; rfl, rfl⟩
    · have k2 := nF' k2
      exact VRet.mk [0, 1, 2, 3, 4, 5, 6] (iv 0) (hoH x rx ro rc ++ [.heap h]) ⟨rfl, rfl, rfl⟩ ⟨by rw [aucE, k, k2]; rfl, rfl⟩
end Go.Proofs

namespace Go.Proofs
open Go Go.V Go.Lib
set_option maxRecDepth 100000
set_option linter.unusedVariables false

theorem s_cancel (h : Nat → Option Obj) (x : HL) (N : Nat) (hx : HI x N) (hN : N ≤ 1000000) (rx : List Value) (ro rc : Nat) (s : ST) :
    Ctr Tryz.prog F_gen_maker_cancel [.agg (.ptr 0 0 :: stcells s)] (hoH x rx ro rc ++ [.heap h]) (fun r H => r = iv (canF x (s.br, s.bn)) ∧ H = hoH x rx ro rc ++ [.heap h]) := by
  refine i_gen_maker_cancel.spec follows ?_
  refine VCall.mk [0, 1, 2, 3, 4, 5] (s_Auctions x N hx hN rx ro rc) ⟨rfl, rfl, rfl⟩ ?_
  rintro _ _ ⟨xs, o, c, rfl, rfl, hr, hal⟩
  have hal2 := Nat.le_trans hal hN
  refine VLoop.mk Nat (fun i => [(1, .ptr 7 0), (7, .sl 8 o (aucF x).length c), (8, iv (aucF x).length), (9, iv i)]) (fun _ => hoH x rx ro rc ++ [.heap h, .cells (.ptr 0 0 :: stcells s) T_gen_maker, .arr xs T_api_Dot]) (fun i => i ≤ (aucF x).length ∧ ∀ k (hk : k < (aucF x).length), k < i → decide ((s.br, s.bn) ∈ bidsF x.bs (aucF x)[k] x.v) = false) (fun i => (aucF x).length - i) 0 [0, 1, 2, 3, 4, 5, 6, 7, 8]
    ⟨⟨Nat.zero_le _, fun k _ hk => absurd hk (Nat.not_lt_zero k)⟩, rfl, rfl, rfl⟩ ?_
  rintro i ⟨hi, hno⟩ g
  refine And.intro (fun t1 => ?_) (fun t1 => ?_)
  · have t1 : (i : Int) < ((aucF x).length : Nat) := of_decide_eq_true t1
    have hil : i < (aucF x).length := Int.ofNat_lt.1 t1
    have hwi := wrapM hil hal2
    have hx1 := hr.cut (fun _ => rfl) hil
    refine And.intro ⟨Int.natCast_nonneg i, t1, RowG.room hr⟩ (Exists.intro _ (And.intro (by rw [Int.toNat_natCast]; exact hx1) ?_))
    refine VCall.mk [0, 1, 2, 3, 4, 5] (s_Bids x hx.b hx.bk (Nat.le_trans hx.bl hN) rx ro rc (aucF x)[i]) ⟨rfl, rfl, rfl⟩ ?_
    rintro _ _ ⟨ys, o2, c2, rfl, rfl, hr2, hl2⟩
    refine And.intro rfl ?_
    refine VCall.mk [10] (s_HasDot (bidsF x.bs (aucF x)[i] x.v) (Nat.le_trans hl2 (Nat.le_trans hx.bl hN)) ys o2 c2 hr2 (s.br, s.bn)) ⟨rfl, rfl, rfl⟩ ?_
    rintro _ _ ⟨rfl, rfl⟩
    refine And.intro (fun t2 => ?_) (fun t2 => ?_)
    · have t2 : decide ((s.br, s.bn) ∈ bidsF x.bs (aucF x)[i] x.v) = true := t2
      refine VCall.mk [0, 1, 2, 3, 4, 5, 6] (s_auction h x N hx hN rx ro rc s (aucF x)[i]) ⟨rfl, rfl, rfl⟩ ?_
      rintro _ _ ⟨rfl, rfl⟩
      have e : canF x (s.br, s.bn) = aucE x (aucF x)[i] := by unfold canF; rw [find_at hil hno t2]
      exact VRet.mk [0, 1, 2, 3, 4, 5, 6] (iv (aucE x (aucF x)[i])) (hoH x rx ro rc ++ [.heap h]) ⟨rfl, rfl, rfl⟩ ⟨by rw [e], rfl⟩
    · have t2 : decide ((s.br, s.bn) ∈ bidsF x.bs (aucF x)[i] x.v) = false := t2
      refine Exists.intro _ (And.intro hwi ?_)
      refine Exists.intro (i + 1) (Exists.intro [0, 1, 2, 3, 4, 5, 6, 7, 8] (And.intro ⟨⟨hil, fun k hkl hk1 => ?_⟩, subM hil⟩ ⟨rfl, rfl, rfl⟩))
      by_cases e : k = i
      · subst e; exact t2
      · exact hno k hkl (by omega)
  · have hil : i = (aucF x).length := Nat.le_antisymm hi (Int.ofNat_le.1 (Int.not_lt.1 (of_decide_eq_false t1)))
    have e : canF x (s.br, s.bn) = 4 := by unfold canF; rw [find_no fun k hk => hno k hk (by omega)]
    exact VRet.mk [0, 1, 2, 3, 4, 5, 6] (iv 4) (hoH x rx ro rc ++ [.heap h]) ⟨rfl, rfl, rfl⟩ ⟨by rw [e], rfl⟩
def refF (x : HL) (s : ST) : Int :=
  bif decide (s.kind = 2) then (bif decide (aucE x (s.ar, s.an) = 0) then usrE x (foldB s.user) else aucE x (s.ar, s.an)) else
  bif decide (s.kind = 3) then canF x (s.br, s.bn) else
  bif decide (s.kind = 4) then usrE x (foldB s.user) else
  bif decide (s.kind = 5) then (bif decide (usrE x (foldB s.user) = 0) then 5 else 0) else
  bif decide (s.kind = 6) then (bif decide (usrE x (foldB s.user) = 0) then (bif decide (depF x s.user - drawnF x (foldB s.user) < s.amount) then 11 else 0) else usrE x (foldB s.user)) else
  bif decide (s.kind = 7) then aucE x (s.ar, s.an) else 0
set_option maxHeartbeats 1000000 in
theorem s_refused (h : Nat → Option Obj) (hc : CaseH h) (x : HL) (N : Nat) (hx : HI x N) (hN : N ≤ 1000000) (rx : List Value) (ro rc : Nat) (s : ST) (hu : s.user.size ≤ 100000000) :
    Ctr Tryz.prog F_gen_maker_refused [.agg (.ptr 0 0 :: stcells s)] (hoH x rx ro rc ++ [.heap h]) (fun r H => r = iv (refF x s) ∧ H = hoH x rx ro rc ++ [.heap h]) := by
  have fin : ∀ (e : Int) (l : List SO), refF x s = e → VRet 7 (iv e) (hoH x rx ro rc ++ .heap h :: l) (fun r H => r = iv (refF x s) ∧ H = hoH x rx ro rc ++ [.heap h]) := by
    rintro e l rfl
    exact VRet.mk [0, 1, 2, 3, 4, 5, 6] (iv (refF x s)) (hoH x rx ro rc ++ [.heap h]) ⟨rfl, rfl, rfl⟩ ⟨rfl, rfl⟩
  have sA := s_auction h x N hx hN rx ro rc s (s.ar, s.an)
  have sU := s_user h hc x N hx hN rx ro rc s hu
  refine i_gen_maker_refused.spec follows ?_
  refine And.intro (fun k => ?_) (fun k2 => ?_)
  · have k : s.kind = 2 := of_decide_eq_true k
    refine VCall.mk [0, 1, 2, 3, 4, 5, 6] sA ⟨rfl, rfl, rfl⟩ ?_
    rintro _ _ ⟨rfl, rfl⟩
    refine And.intro (fun t => ?_) (fun t => ?_)
    · have t : decide (aucE x (s.ar, s.an) = 0) = false := nT' t
      exact fin _ _ (by simp [refF, k, t])
    · have t : decide (aucE x (s.ar, s.an) = 0) = true := nF' t
      refine VCall.mk [0, 1, 2, 3, 4, 5, 6] sU ⟨rfl, rfl, rfl⟩ ?_
      rintro _ _ ⟨rfl, rfl⟩
      exact fin _ _ (by simp only [refF, k, t]; rfl)
  have k2 : ¬ s.kind = 2 := of_decide_eq_false k2
  refine And.intro (fun k => ?_) (fun k3 => ?_)
  · have k : s.kind = 3 := of_decide_eq_true k
    refine VCall.mk [0, 1, 2, 3, 4, 5, 6] (s_cancel h x N hx hN rx ro rc s) ⟨rfl, rfl, rfl⟩ ?_
    rintro _ _ ⟨rfl, rfl⟩
    exact fin _ _ (by simp [refF, k])
  have k3 : ¬ s.kind = 3 := of_decide_eq_false k3
  refine And.intro (fun k => ?_) (fun k4 => ?_)
  · have k : s.kind = 4 := of_decide_eq_true k
    refine VCall.mk [0, 1, 2, 3, 4, 5, 6] sU ⟨rfl, rfl, rfl⟩ ?_
    rintro _ _ ⟨rfl, rfl⟩
    exact fin _ _ (by simp [refF, k])
  have k4 : ¬ s.kind = 4 := of_decide_eq_false k4
  refine And.intro (fun k => ?_) (fun k5 => ?_)
  · have k : s.kind = 5 := of_decide_eq_true k
    refine VCall.mk [0, 1, 2, 3, 4, 5, 6] sU ⟨rfl, rfl, rfl⟩ ?_
    rintro _ _ ⟨rfl, rfl⟩
    refine And.intro (fun t => ?_) (fun t => ?_)
    · have t : decide (usrE x (foldB s.user) = 0) = true := t
      exact fin _ _ (by simp only [refF, k, t]; rfl)
    · have t : decide (usrE x (foldB s.user) = 0) = false := t
      exact fin _ _ (by simp only [refF, k, t]; rfl)
  have k5 : ¬ s.kind = 5 := of_decide_eq_false k5
  refine And.intro (fun k => ?_) (fun k6 => ?_)
  · have k : s.kind = 6 := of_decide_eq_true k
    refine VCall.mk [0, 1, 2, 3, 4, 5, 6] sU ⟨rfl, rfl, rfl⟩ ?_
    rintro _ _ ⟨rfl, rfl⟩
    refine And.intro (fun t => ?_) (fun t => ?_)
    · have t : decide (usrE x (foldB s.user) = 0) = false := nT' t
      exact fin _ _ (by simp only [refF, k, t]; rfl)
    · have t : decide (usrE x (foldB s.user) = 0) = true := nF' t
      refine VCall.mk [0, 1, 2, 3, 4, 5, 6] (s_Balance h hc x N hx rx ro rc s.user hu) ⟨rfl, rfl, rfl⟩ ?_
      rintro _ _ ⟨rfl, rfl⟩
      refine And.intro rfl ?_
      refine And.intro (fun t2 => ?_) (fun t2 => ?_)
      · have t2 : decide (depF x s.user - drawnF x (foldB s.user) < s.amount) = true := t2
        exact fin _ _ (by simp only [refF, k, t, t2]; rfl)
      · have t2 : decide (depF x s.user - drawnF x (foldB s.user) < s.amount) = false := t2
        exact fin _ _ (by simp only [refF, k, t, t2]; rfl)
  have k6 : ¬ s.kind = 6 := of_decide_eq_false k6
  refine And.intro (fun k => ?_) (fun k7 => ?_)
  · have k : s.kind = 7 := of_decide_eq_true k
    refine VCall.mk [0, 1, 2, 3, 4, 5, 6] sA ⟨rfl, rfl, rfl⟩ ?_
    rintro _ _ ⟨rfl, rfl⟩
    exact fin _ _ (by simp [refF, k])
  have k7 : ¬ s.kind = 7 := of_decide_eq_false k7
  exact fin _ _ (by simp [refF, k2, k3, k4, k5, k6, k7])
/-! ### What a call becomes -/
structure CT where
  kind : Int
  name : ByteArray
  user : ByteArray
  ar : Int
  an : Int
  br : Int
  bn : Int
  amount : Int
abbrev cacells (c : CT) : List SV := [iv c.kind, .raw (.string c.name), .raw (.string c.user), iv c.ar, iv c.an, iv c.br, iv c.bn, iv c.amount]
def mk0 (x : HL) (c : CT) (d : Int × Int) (f : Int) : ST := ⟨c.kind, d.1, d.2, x.v, x.red.length, c.name, c.user, c.ar, c.an, c.br, c.bn, c.amount, f⟩
def makeS (x : HL) (c : CT) (d : Int × Int) : ST := mk0 x c d (bif decide (c.kind = 6) then depF x c.user else 0)
def makeE (x : HL) (c : CT) (d : Int × Int) : Int := bif goodT (makeS x c d) then refF x (makeS x c d) else 1
def makeN (x : HL) (c : CT) (d : Int × Int) : ST := bif decide (makeE x c d = 0) then makeS x c d else zeroT'
set_option maxHeartbeats 4000000 in
theorem s_Make (h : Nat → Option Obj) (hu : Uni h) (hc : CaseH h) (x : HL) (N : Nat) (hx : HI x N) (hN : N ≤ 1000000) (rx : List Value) (ro rc : Nat) (c : CT) (d : Int × Int) (z1 : c.name.size ≤ 1000) (z2 : c.user.size ≤ 1000) :
    Ctr Tryz.prog F_gen_Make [.ptr 0 0, .agg (cacells c), .agg (dcells d.1 d.2)] (hoH x rx ro rc ++ [.heap h]) (fun r H => r = .tup [.agg (stcells (makeN x c d)), iv (makeE x c d)] ∧ H = hoH x rx ro rc ++ [.heap h]) := by
  have fin : ∀ (s : ST) (e : Int) (l : List SO), makeN x c d = s → makeE x c d = e → VRet 7 (.tup [.agg (stcells s), iv e]) (hoH x rx ro rc ++ .heap h :: l) (fun r H => r = .tup [.agg (stcells (makeN x c d)), iv (makeE x c d)] ∧ H = hoH x rx ro rc ++ [.heap h]) := by
    rintro s e l rfl rfl
    exact VRet.mk [0, 1, 2, 3, 4, 5, 6] (.tup [.agg (stcells (makeN x c d)), iv (makeE x c d)]) (hoH x rx ro rc ++ [.heap h]) ⟨rfl, rfl, rfl⟩ ⟨rfl, rfl⟩
  refine i_gen_Make.spec follows ?_
  refine And.intro ?a ?b
  case a =>
    refine VCall.mk [0, 1, 2, 3, 4, 5] (s_Have x rx ro rc) ⟨rfl, rfl, rfl⟩ ?_
    rintro _ _ ⟨rfl, rfl⟩
    refine And.intro rfl (And.intro rfl (And.intro rfl (And.intro rfl (And.intro rfl (And.intro rfl (And.intro rfl ?_))))))
    refine And.intro ?c ?d
    case c =>
      refine VCall.mk [0, 1, 2, 3, 4, 5] (s_Reds x rx ro rc) ⟨rfl, rfl, rfl⟩ ?_
      rintro _ _ ⟨rfl, rfl⟩
      repeat refine And.intro rfl ?_
      refine And.intro (fun k6 => ?_) (fun k6 => ?_)
      · have k6 : decide (c.kind = 6) = true := k6
        refine VCall.mk [0, 1, 2, 3, 4, 5, 6] (s_Deposited h hc x N hx rx ro rc c.user (Nat.le_trans z2 (by decide))) ⟨rfl, rfl, rfl⟩ ?_
        rintro _ _ ⟨rfl, rfl⟩
        have hmk : makeS x c d = mk0 x c d (depF x c.user) := by rw [makeS, k6]; rfl
        refine VCall.mk [6] (s_Good h hu (mk0 x c d (depF x c.user)) (Nat.le_trans z1 (by decide)) (Nat.le_trans z2 (by decide))) ⟨rfl, rfl, rfl⟩ ?_
        rintro _ _ ⟨rfl, rfl⟩
        refine And.intro (fun kg => ?_) (fun kg => ?_)
        · have kg := nT' kg
          exact fin zeroT' 1 _ (by rw [makeN, makeE, hmk, kg]; rfl) (by rw [makeE, hmk, kg]; rfl)
        have kg := nF' kg
        have hE : makeE x c d = refF x (mk0 x c d (depF x c.user)) := by rw [makeE, hmk, kg]; rfl
        refine VCall.mk [0, 1, 2, 3, 4, 5, 6] (s_refused h hc x N hx hN rx ro rc (mk0 x c d (depF x c.user)) (Nat.le_trans z2 (by decide))) ⟨rfl, rfl, rfl⟩ ?_
        rintro _ _ ⟨rfl, rfl⟩
        refine And.intro (fun kr => ?_) (fun kr => ?_)
        · have kr : decide (refF x (mk0 x c d (depF x c.user)) = 0) = false := nT' kr
          exact fin zeroT' _ _ (by rw [makeN, hE, kr]; rfl) hE
        · have kr : decide (refF x (mk0 x c d (depF x c.user)) = 0) = true := nF' kr
          exact fin (mk0 x c d (depF x c.user)) 0 _ (by rw [makeN, hE, kr, hmk]; rfl) (by rw [hE]; exact of_decide_eq_true kr)
      · have k6 : decide (c.kind = 6) = false := k6
        have hmk : makeS x c d = mk0 x c d 0 := by rw [makeS, k6]; rfl
        refine VCall.mk [6] (s_Good h hu (mk0 x c d 0) (Nat.le_trans z1 (by decide)) (Nat.le_trans z2 (by decide))) ⟨rfl, rfl, rfl⟩ ?_
        rintro _ _ ⟨rfl, rfl⟩
        refine And.intro (fun kg => ?_) (fun kg => ?_)
        · have kg := nT' kg
          exact fin zeroT' 1 _ (by rw [makeN, makeE, hmk, kg]; rfl) (by rw [makeE, hmk, kg]; rfl)
        have kg := nF' kg
        have hE : makeE x c d = refF x (mk0 x c d 0) := by rw [makeE, hmk, kg]; rfl
        refine VCall.mk [0, 1, 2, 3, 4, 5, 6] (s_refused h hc x N hx hN rx ro rc (mk0 x c d 0) (Nat.le_trans z2 (by decide))) ⟨rfl, rfl, rfl⟩ ?_
        rintro _ _ ⟨rfl, rfl⟩
        refine And.intro (fun kr => ?_) (fun kr => ?_)
        · have kr : decide (refF x (mk0 x c d 0) = 0) = false := nT' kr
          exact fin zeroT' _ _ (by rw [makeN, hE, kr]; rfl) hE
        · have kr : decide (refF x (mk0 x c d 0) = 0) = true := nF' kr
          exact fin (mk0 x c d 0) 0 _ (by rw [makeN, hE, kr, hmk]; rfl) (by rw [hE]; exact of_decide_eq_true kr)
    case d =>
      repeat refine And.intro rfl ?_
      refine VCall.mk [0, 1, 2, 3, 4, 5] (s_Reds x rx ro rc) ⟨rfl, rfl, rfl⟩ ?_
      rintro _ _ ⟨rfl, rfl⟩
      repeat refine And.intro rfl ?_
      refine And.intro (fun k6 => ?_) (fun k6 => ?_)
      · have k6 : decide (c.kind = 6) = true := k6
        refine VCall.mk [0, 1, 2, 3, 4, 5, 6] (s_Deposited h hc x N hx rx ro rc c.user (Nat.le_trans z2 (by decide))) ⟨rfl, rfl, rfl⟩ ?_
        rintro _ _ ⟨rfl, rfl⟩
        have hmk : makeS x c d = mk0 x c d (depF x c.user) := by rw [makeS, k6]; rfl
        refine VCall.mk [6] (s_Good h hu (mk0 x c d (depF x c.user)) (Nat.le_trans z1 (by decide)) (Nat.le_trans z2 (by decide))) ⟨rfl, rfl, rfl⟩ ?_
        rintro _ _ ⟨rfl, rfl⟩
        refine And.intro (fun kg => ?_) (fun kg => ?_)
        · have kg := nT' kg
          exact fin zeroT' 1 _ (by rw [makeN, makeE, hmk, kg]; rfl) (by rw [makeE, hmk, kg]; rfl)
        have kg := nF' kg
        have hE : makeE x c d = refF x (mk0 x c d (depF x c.user)) := by rw [makeE, hmk, kg]; rfl
        refine VCall.mk [0, 1, 2, 3, 4, 5, 6] (s_refused h hc x N hx hN rx ro rc (mk0 x c d (depF x c.user)) (Nat.le_trans z2 (by decide))) ⟨rfl, rfl, rfl⟩ ?_
        rintro _ _ ⟨rfl, rfl⟩
        refine And.intro (fun kr => ?_) (fun kr => ?_)
        · have kr : decide (refF x (mk0 x c d (depF x c.user)) = 0) = false := nT' kr
          exact fin zeroT' _ _ (by rw [makeN, hE, kr]; rfl) hE
        · have kr : decide (refF x (mk0 x c d (depF x c.user)) = 0) = true := nF' kr
          exact fin (mk0 x c d (depF x c.user)) 0 _ (by rw [makeN, hE, kr, hmk]; rfl) (by rw [hE]; exact of_decide_eq_true kr)
      · have k6 : decide (c.kind = 6) = false := k6
        have hmk : makeS x c d = mk0 x c d 0 := by rw [makeS, k6]; rfl
        refine VCall.mk [6] (s_Good h hu (mk0 x c d 0) (Nat.le_trans z1 (by decide)) (Nat.le_trans z2 (by decide))) ⟨rfl, rfl, rfl⟩ ?_
        rintro _ _ ⟨rfl, rfl⟩
        refine And.intro (fun kg => ?_) (fun kg => ?_)
        · have kg := nT' kg
          exact fin zeroT' 1 _ (by rw [makeN, makeE, hmk, kg]; rfl) (by rw [makeE, hmk, kg]; rfl)
        have kg := nF' kg
        have hE : makeE x c d = refF x (mk0 x c d 0) := by rw [makeE, hmk, kg]; rfl
        refine VCall.mk [0, 1, 2, 3, 4, 5, 6] (s_refused h hc x N hx hN rx ro rc (mk0 x c d 0) (Nat.le_trans z2 (by decide))) ⟨rfl, rfl, rfl⟩ ?_
        rintro _ _ ⟨rfl, rfl⟩
        refine And.intro (fun kr => ?_) (fun kr => ?_)
        · have kr : decide (refF x (mk0 x c d 0) = 0) = false := nT' kr
          exact fin zeroT' _ _ (by rw [makeN, hE, kr]; rfl) hE
        · have kr : decide (refF x (mk0 x c d 0) = 0) = true := nF' kr
          exact fin (mk0 x c d 0) 0 _ (by rw [makeN, hE, kr, hmk]; rfl) (by rw [hE]; exact of_decide_eq_true kr)
  case b =>
    repeat refine And.intro rfl ?_
    refine VCall.mk [0, 1, 2, 3, 4, 5] (s_Have x rx ro rc) ⟨rfl, rfl, rfl⟩ ?_
    rintro _ _ ⟨rfl, rfl⟩
    repeat refine And.intro rfl ?_
    refine VCall.mk [0, 1, 2, 3, 4, 5] (s_Reds x rx ro rc) ⟨rfl, rfl, rfl⟩ ?_
    rintro _ _ ⟨rfl, rfl⟩
    repeat refine And.intro rfl ?_
    refine And.intro (fun k6 => ?_) (fun k6 => ?_)
    · have k6 : decide (c.kind = 6) = true := k6
      refine VCall.mk [0, 1, 2, 3, 4, 5, 6] (s_Deposited h hc x N hx rx ro rc c.user (Nat.le_trans z2 (by decide))) ⟨rfl, rfl, rfl⟩ ?_
      rintro _ _ ⟨rfl, rfl⟩
      have hmk : makeS x c d = mk0 x c d (depF x c.user) := by rw [makeS, k6]; rfl
      refine VCall.mk [6] (s_Good h hu (mk0 x c d (depF x c.user)) (Nat.le_trans z1 (by decide)) (Nat.le_trans z2 (by decide))) ⟨rfl, rfl, rfl⟩ ?_
      rintro _ _ ⟨rfl, rfl⟩
      refine And.intro (fun kg => ?_) (fun kg => ?_)
      · have kg := nT' kg
        exact fin zeroT' 1 _ (by rw [makeN, makeE, hmk, kg]; rfl) (by rw [makeE, hmk, kg]; rfl)
      have kg := nF' kg
      have hE : makeE x c d = refF x (mk0 x c d (depF x c.user)) := by rw [makeE, hmk, kg]; rfl
      refine VCall.mk [0, 1, 2, 3, 4, 5, 6] (s_refused h hc x N hx hN rx ro rc (mk0 x c d (depF x c.user)) (Nat.le_trans z2 (by decide))) ⟨rfl, rfl, rfl⟩ ?_
      rintro _ _ ⟨rfl, rfl⟩
      refine And.intro (fun kr => ?_) (fun kr => ?_)
      · have kr : decide (refF x (mk0 x c d (depF x c.user)) = 0) = false := nT' kr
        exact fin zeroT' _ _ (by rw [makeN, hE, kr]; rfl) hE
      · have kr : decide (refF x (mk0 x c d (depF x c.user)) = 0) = true := nF' kr
        exact fin (mk0 x c d (depF x c.user)) 0 _ (by rw [makeN, hE, kr, hmk]; rfl) (by rw [hE]; exact of_decide_eq_true kr)
    · have k6 : decide (c.kind = 6) = false := k6
      have hmk : makeS x c d = mk0 x c d 0 := by rw [makeS, k6]; rfl
      refine VCall.mk [6] (s_Good h hu (mk0 x c d 0) (Nat.le_trans z1 (by decide)) (Nat.le_trans z2 (by decide))) ⟨rfl, rfl, rfl⟩ ?_
      rintro _ _ ⟨rfl, rfl⟩
      refine And.intro (fun kg => ?_) (fun kg => ?_)
      · have kg := nT' kg
        exact fin zeroT' 1 _ (by rw [makeN, makeE, hmk, kg]; rfl) (by rw [makeE, hmk, kg]; rfl)
      have kg := nF' kg
      have hE : makeE x c d = refF x (mk0 x c d 0) := by rw [makeE, hmk, kg]; rfl
      refine VCall.mk [0, 1, 2, 3, 4, 5, 6] (s_refused h hc x N hx hN rx ro rc (mk0 x c d 0) (Nat.le_trans z2 (by decide))) ⟨rfl, rfl, rfl⟩ ?_
      rintro _ _ ⟨rfl, rfl⟩
      refine And.intro (fun kr => ?_) (fun kr => ?_)
      · have kr : decide (refF x (mk0 x c d 0) = 0) = false := nT' kr
        exact fin zeroT' _ _ (by rw [makeN, hE, kr]; rfl) hE
      · have kr : decide (refF x (mk0 x c d 0) = 0) = true := nF' kr
        exact fin (mk0 x c d 0) 0 _ (by rw [makeN, hE, kr, hmk]; rfl) (by rw [hE]; exact of_decide_eq_true kr)
end Go.Proofs

namespace Go.Proofs
open Go Go.V Go.Lib
set_option maxRecDepth 100000
set_option linter.unusedVariables false

/-! ### What is written is read again -/
theorem rd_numB : ∀ (k i u a : Nat) (l : List Int), i + k ≤ 8 → u < 128 ^ (k + 1) → (0 < i → 0 < u) → rd (Go.V.numB u ++ l) i a = some (a + u * 2 ^ (7 * i), l)
  | 0, i, u, a, l, hi, hu, h0 => by
    have hu : u < 128 := by simpa using hu
    rw [numB_lt hu, List.singleton_append, rd, if_neg (by omega), if_neg (by omega), if_neg (by omega)]
    simp
  | k + 1, i, u, a, l, hi, hu, h0 => by
    by_cases h1 : u < 128
    · rw [numB_lt h1, List.singleton_append, rd, if_neg (by omega), if_neg (by omega), if_neg (by omega)]
      simp
    · have hq : u / 128 < 128 ^ (k + 1) := by rw [Nat.div_lt_iff_lt_mul (by omega)]; rw [Nat.pow_succ] at hu; omega
      rw [numB_ge h1, List.cons_append, rd, if_neg (by omega), if_pos (by omega), rd_numB k (i + 1) (u / 128) _ l (by omega) hq (by omega)]
      have e1 : ((u % 128 + 128 : Nat) : Int).toNat % 128 = u % 128 := by omega
      have e2 : (2 : Nat) ^ (7 * (i + 1)) = 128 * 2 ^ (7 * i) := by rw [show 7 * (i + 1) = 7 * i + 7 by omega, Nat.pow_add]; omega
      have e3 : u / 128 * (128 * 2 ^ (7 * i)) = (u / 128 * 128) * 2 ^ (7 * i) := by rw [Nat.mul_assoc]
      have e4 : u * 2 ^ (7 * i) = u % 128 * 2 ^ (7 * i) + (u / 128 * 128) * 2 ^ (7 * i) := by
        rw [← Nat.add_mul]; congr 1; omega
      rw [e1, e2, e3, e4, Nat.add_assoc]
theorem rdN_zB {n a b : Int} (l : List Int) (h : 0 ≤ n ∧ n < 4611686018427387904) (hab : a ≤ n ∧ n ≤ b) : rdN (zB n ++ l) a b = some (n, l) := by
  have h1 := rd_numB 8 0 (2 * n.toNat) 0 l (by omega) (by
    have : (128 : Nat) ^ (8 + 1) = 9223372036854775808 := by decide
    rw [this]; omega) (by omega)
  have hz : zig (2 * n.toNat) = n := by
    unfold zig
    rw [if_neg (by omega)]; omega
  simp only [rdN, zB, h1, Nat.mul_zero, Nat.pow_zero, Nat.mul_one, Nat.zero_add, hz]
  rw [if_neg (by omega)]
theorem rdVs_vecB {v : Nat → Int} (hv : ∀ r, r < 7 → 0 ≤ v r ∧ v r ≤ 1099511627776) : ∀ (k : Nat) (l : List Int), k ≤ 7 → ∃ v', rdVs k (vecB v k ++ l) = some (v', l) ∧ ∀ i, i < k → v' i = v i
  | 0, l, _ => ⟨_, rfl, fun i hi => by omega⟩
  | k + 1, l, hk => by
    have hb := hv k (by omega)
    obtain ⟨v', h1, h2⟩ := rdVs_vecB hv k (zB (v k) ++ l) (by omega)
    have h1' : rdVs k (vecB v k ++ (Go.V.numB (2 * (v k).toNat) ++ l)) = some (v', zB (v k) ++ l) := h1
    refine ⟨upv v' k (v k), ?_, fun i hi => ?_⟩
    · rw [rdVs, vecB, List.append_assoc, h1']
      simp only [rdN_zB l (n := v k) (a := 0) (b := 1099511627776) (by omega) hb]
    · simp only [upv]
      by_cases hik : i = k
      · rw [if_pos hik, hik]
      · rw [if_neg hik]; exact h2 i (by omega)
theorem rdDot_zB {r n : Int} (l : List Int) (hr : 0 ≤ r ∧ r ≤ 6) (hn : 0 ≤ n ∧ n ≤ 1099511627776) : rdDot (zB r ++ (zB n ++ l)) = some ((r, n), l) := by
  unfold rdDot
  rw [rdN_zB _ (by omega) hr]
  simp only
  rw [rdN_zB _ (by omega) hn]
theorem strOf_strL (s : ByteArray) : strOf (strL s) = s := by
  cases s with | mk a =>
  unfold strOf strL
  congr 1
  rw [List.map_map]
  have : ((fun n : Int => UInt8.ofNat n.toNat) ∘ fun b : UInt8 => (b.toNat : Int)) = id := by
    funext b
    show UInt8.ofNat ((b.toNat : Int)).toNat = b
    rw [Int.toNat_natCast]; simp
  rw [this]; simp
theorem rdText_textB {s : ByteArray} {lim : Int} (l : List Int) (hs : (s.size : Int) ≤ lim) (h2 : s.size ≤ 1000) : rdText (textB s ++ l) lim = some (s, l) := by
  have h1 : rdN (textB s ++ l) 0 lim = some ((s.size : Int), strL s ++ l) := by
    have := rdN_zB (n := (s.size : Int)) (a := 0) (b := lim) (strL s ++ l) (by omega) (by omega)
    rw [zB, Int.toNat_natCast] at this
    rw [textB, List.append_assoc]; exact this
  unfold rdText
  rw [h1]
  simp only
  have hl : (strL s).length = s.size := strL_len s
  rw [if_neg (by rw [List.length_append, hl]; omega), Int.toNat_natCast, ← hl, List.take_left, List.drop_left, strOf_strL]
theorem good_seen {s : ST} {v : Nat → Int} (h : ∀ i, i < 7 → v i = s.seen i) : goodT { s with seen := v } = goodT s := by
  have h1 : vgoodB v = vgoodB s.seen := by
    apply Bool.eq_iff_iff.2
    rw [vgoodB_iff, vgoodB_iff]
    constructor
    · intro hh i hi; rw [← h i hi]; exact hh i hi
    · intro hh i hi; rw [h i hi]; exact hh i hi
  have hh : headT { s with seen := v } = headT s := by simp only [headT, h1]
  cases hd : headT s with
  | false => rw [goodT, goodT, hh, hd]; rfl
  | true =>
    have hd2 := hd
    simp only [headT, isDot, isRep, Bool.and_eq_true, decide_eq_true_eq] at hd2
    have h2 : v s.rep.toNat = s.seen s.rep.toNat := h _ (by omega)
    have h3 : partT { s with seen := v } = partT s := rfl
    have h4 : redT { s with seen := v } = redT s := rfl
    rw [goodT, goodT, hh, h3, h4]
    simp only [h2]
theorem good_kind' {s : ST} (h : goodT s = true) : 1 ≤ s.kind ∧ s.kind ≤ 7 := by
  simp only [goodT, headT, Bool.and_eq_true, decide_eq_true_eq] at h; omega
theorem get_put_rt {s : ST} (hg : goodT s = true) (h1 : s.name.size ≤ 80) (h2 : s.user.size ≤ 80) : ∃ s', getSt (putB s) = some s' ∧ stcells s' = stcells s := by
  have hs := good_sm hg (Nat.le_trans h1 (by decide)) (Nat.le_trans h2 (by decide))
  obtain ⟨v', hv1, hv2⟩ := rdVs_vecB hs.v 7 (zB s.reds ++ (textB s.name ++ (textB s.user ++ (zB s.ar ++ (zB s.an ++ (zB s.br ++ (zB s.bn ++ (zB s.amount ++ zB s.funds)))))))) (by omega)
  have hk := good_kind' hg
  have e1 := rdN_zB (n := s.kind) (a := 0) (b := 7) (zB s.rep ++ (zB s.n ++ (vecB s.seen 7 ++ (zB s.reds ++ (textB s.name ++ (textB s.user ++ (zB s.ar ++ (zB s.an ++ (zB s.br ++ (zB s.bn ++ (zB s.amount ++ zB s.funds))))))))))) (by omega) (by omega)
  have e2 := rdDot_zB (r := s.rep) (n := s.n) (vecB s.seen 7 ++ (zB s.reds ++ (textB s.name ++ (textB s.user ++ (zB s.ar ++ (zB s.an ++ (zB s.br ++ (zB s.bn ++ (zB s.amount ++ zB s.funds))))))))) (by have := hs.r; omega) (by have := hs.n; omega)
  have e4 := rdN_zB (n := s.reds) (a := 0) (b := 1000) (textB s.name ++ (textB s.user ++ (zB s.ar ++ (zB s.an ++ (zB s.br ++ (zB s.bn ++ (zB s.amount ++ zB s.funds))))))) (by have := hs.reds; omega) (by have := hs.reds; omega)
  have e5 := rdText_textB (s := s.name) (lim := 80) (textB s.user ++ (zB s.ar ++ (zB s.an ++ (zB s.br ++ (zB s.bn ++ (zB s.amount ++ zB s.funds)))))) (by omega) (by omega)
  have e6 := rdText_textB (s := s.user) (lim := 80) (zB s.ar ++ (zB s.an ++ (zB s.br ++ (zB s.bn ++ (zB s.amount ++ zB s.funds))))) (by omega) (by omega)
  have e7 := rdDot_zB (r := s.ar) (n := s.an) (zB s.br ++ (zB s.bn ++ (zB s.amount ++ zB s.funds))) (by have := hs.ar; omega) (by have := hs.an; omega)
  have e8 := rdDot_zB (r := s.br) (n := s.bn) (zB s.amount ++ zB s.funds) (by have := hs.br; omega) (by have := hs.bn; omega)
  have e9 := rdN_zB (n := s.amount) (a := 0) (b := 1000000000) (zB s.funds) (by have := hs.am; omega) (by have := hs.am; omega)
  have e10 := rdN_zB (n := s.funds) (a := 0) (b := 1125899906842624) [] (by have := hs.fu; omega) (by have := hs.fu; omega)
  rw [List.append_nil] at e10
  refine ⟨{ s with seen := v' }, ?_, ?_⟩
  · have hg' : goodT (getRow s.kind (s.rep, s.n) v' s.reds s.name s.user (s.ar, s.an) (s.br, s.bn) s.amount s.funds) = true := by
      have := good_seen (s := s) hv2
      rw [hg] at this; exact this
    simp only [getSt, putB, e1, e2, hv1, e4, e5, e6, e7, e8, e9, e10, Option.bind_some, List.length_nil, hg', and_self, if_true]
    rfl
  · simp only [stcells, vcells, hv2 0 (by omega), hv2 1 (by omega), hv2 2 (by omega), hv2 3 (by omega), hv2 4 (by omega), hv2 5 (by omega), hv2 6 (by omega)]
/-! ### Awake -/
theorem s_stp (s : ST) : Ctr Tryz.prog F_rostrumlaw25_stp [.agg (stcells s)] [] (fun r H => r = .agg (stcells s) ∧ H = []) := by
  refine i_rostrumlaw25_stp.spec follows ?_
  exact VRet.mk [] (.agg (stcells s)) [] ⟨rfl, rfl, rfl⟩ ⟨rfl, rfl⟩
theorem s_cal (c : CT) : Ctr Tryz.prog F_rostrumlaw25_cal [.agg (cacells c)] [] (fun r H => r = .agg (cacells c) ∧ H = []) := by
  refine i_rostrumlaw25_cal.spec follows ?_
  exact VRet.mk [] (.agg (cacells c)) [] ⟨rfl, rfl, rfl⟩ ⟨rfl, rfl⟩
def longT (s : ST) : Bool := decide ((100 : Int) < s.name.size) || decide ((100 : Int) < s.user.size)
theorem s_long (s : ST) : Ctr Tryz.prog F_rostrumlaw25_long [.agg (stcells s)] [] (fun x H => x = bv (longT s) ∧ H = []) := by
  have fin : ∀ (b : Bool) (l : List SO), b = longT s → VRet 0 (bv b) l (fun x H => x = bv (longT s) ∧ H = []) := by
    rintro b l rfl
    exact VRet.mk [] _ [] ⟨rfl, rfl, rfl⟩ ⟨rfl, rfl⟩
  refine i_rostrumlaw25_long.spec follows ?_
  refine And.intro (fun h => ?_) (fun h => ?_)
  · exact fin _ _ (by rw [longT, show decide ((100 : Int) < s.name.size) = false from h]; rfl)
  · exact fin _ _ (by rw [longT, show decide ((100 : Int) < s.name.size) = true from h]; rfl)
theorem long_not {s : ST} (h : longT s = false) : s.name.size ≤ 100 ∧ s.user.size ≤ 100 := by
  simp only [longT, Bool.or_eq_false_iff, decide_eq_false_iff_not] at h
  omega
abbrev tann : ByteArray := ByteArray.mk #[97, 110, 110]
def caA : CT := ⟨2, es, tann, 0, 1, 0, 0, 5⟩
def caB : CT := ⟨5, es, tann, 0, 0, 0, 0, 0⟩
theorem bb_self (a : ByteArray) : (a == a) = true := by
  cases a with | mk x => exact beq_self_eq_true x
theorem g1 : makeE HL.new caA (0, 1) = 4 := by decide +kernel
theorem g2 : makeE HL.new caB (0, 1) = 0 ∧ goodT (makeS HL.new caB (0, 1)) = true := by decide +kernel
theorem row0 : RowG stcl 19 [] 0 0 ([] : List ST) := ⟨Nat.le_refl _, by simp, by simp⟩
set_option maxHeartbeats 1000000 in
theorem s_awake (h : Nat → Option Obj) (hu : Uni h) (hc : CaseH h) : Ctr Tryz.prog F_rostrumlaw25_awake [] [.heap h] (fun r H => r = bv true ∧ H = [.heap h]) := by
  have hN : makeN HL.new caB (0, 1) = makeS HL.new caB (0, 1) := by rw [makeN, g2.1]; rfl
  have hM := s_Make h hu hc HL.new 0 HI.new (by decide) [] 0 0 caB (0, 1) (by decide) (by decide)
  rw [hN, g2.1] at hM
  have hA := s_Make h hu hc HL.new 0 HI.new (by decide) [] 0 0 caA (0, 1) (by decide) (by decide)
  rw [g1] at hA
  have hP := s_gen_Put h hu (makeS HL.new caB (0, 1)) (by decide) (by decide)
  have hrt := get_put_rt g2.2 (by decide) (by decide)
  obtain ⟨s', hs1, hs2⟩ := hrt
  have hgp : genP (makeS HL.new caB (0, 1)) = putB (makeS HL.new caB (0, 1)) := by rw [genP, g2.2]; rfl
  have hsm := good_sm g2.2 (by decide) (by decide)
  rw [hgp] at hP
  refine i_rostrumlaw25_awake.spec follows ?_
  refine VCall.mk [] s_New ⟨rfl, rfl, rfl⟩ ?_
  rintro _ _ ⟨rfl, rfl⟩
  refine VCall.mk [1, 2, 3, 4, 5, 6, 0] hA ⟨rfl, rfl, rfl⟩ ?_
  rintro _ _ ⟨rfl, rfl⟩
  refine VCall.mk [] s_New ⟨rfl, rfl, rfl⟩ ?_
  rintro _ _ ⟨rfl, rfl⟩
  refine VCall.mk [8, 9, 10, 11, 12, 13, 0] hM ⟨rfl, rfl, rfl⟩ ?_
  rintro _ _ ⟨rfl, rfl⟩
  refine VCall.mk [0] hP ⟨rfl, rfl, rfl⟩ ?_
  rintro _ _ ⟨o, c, ys, rfl, rfl, hb⟩
  have hG := s_gen_Get h hu (putB (makeS HL.new caB (0, 1))) ys T_uint8 o c hb (putB_byt _) (Nat.le_trans (putB_len hsm) (by decide))
  rw [hs1, getV] at hG
  simp only [Option.getD_some, hs2, Option.isSome_some, cond_true] at hG
  refine VCall.mk [15, 0] hG ⟨rfl, rfl, rfl⟩ ?_
  rintro _ _ ⟨rfl, rfl⟩
  refine And.intro (fun _ => ?_) (fun k => absurd k (by decide))
  refine And.intro (fun _ => ?_) (fun k => absurd k (by decide))
  refine And.intro (fun _ => ?_) (fun k => absurd k (by decide +kernel))
  refine And.intro (fun _ => ?_) (fun k => absurd k (by decide))
  refine VRet.mk [0] (bv _) [.heap h] ⟨rfl, rfl, rfl⟩ ⟨?_, rfl⟩
  show bv _ = bv _
  simp [bb_self]
end Go.Proofs

namespace Go.Proofs
open Go Go.V Go.Lib
set_option maxRecDepth 100000
set_option linter.unusedVariables false

def RowsIs {α : Type} (cl : α → List Value) (k : Nat) (h : Nat → Option Obj) (v : Value) (L : List α) : Prop := ((∃ a c, v = .slice a 0 c) ∧ L = []) ∨
  ∃ (b o c : Nat) (xs : List Value) (e : TypeId) (fr : Nat × Nat), v = .slice (some ⟨b, o, none⟩) L.length c ∧ h b = some (.cells xs.toArray e fr) ∧ ∀ i (hi : i < L.length), V.cut xs (o + i * k) k = some (cl L[i])
theorem RowsIs.shape {α : Type} {cl : α → List Value} {k : Nat} {h : Nat → Option Obj} {v : Value} {L : List α} (hv : RowsIs cl k h v L) : ∃ a c, v = .slice a L.length c := by
  rcases hv with ⟨⟨a, c, rfl⟩, rfl⟩ | ⟨b, o, c, xs, e, fr, rfl, _⟩
  · exact ⟨a, c, rfl⟩
  · exact ⟨_, c, rfl⟩
theorem RowsIs.at {α : Type} {cl : α → List Value} {k : Nat} {h : Nat → Option Obj} {a : Option Addr} {n c : Nat} {L : List α} (hv : RowsIs cl k h (.slice a n c) L) {i : Nat} (hi : i < L.length) :
    ∃ (b o : Nat) (xs : List Value) (e : TypeId) (fr : Nat × Nat), a = some ⟨b, o, none⟩ ∧ h b = some (.cells xs.toArray e fr) ∧ ∀ j (hj : j < L.length), V.cut xs (o + j * k) k = some (cl L[j]) := by
  rcases hv with ⟨h1, rfl⟩ | ⟨b, o, c, xs, e, fr, h1, h2, h3⟩
  · simp at hi
  · cases h1
    exact ⟨b, o, xs, e, fr, rfl, h2, h3⟩
theorem RowsIs.pos {α : Type} {cl : α → List Value} {k : Nat} {h : Nat → Option Obj} {a : Option Addr} {n c : Nat} {L : List α} (hv : RowsIs cl k h (.slice a n c) L) :
    ∃ (b o : Nat) (xs : List Value) (e : TypeId) (fr : Nat × Nat), 0 < L.length → a = some ⟨b, o, none⟩ ∧ h b = some (.cells xs.toArray e fr) ∧ ∀ j (hj : j < L.length), V.cut xs (o + j * k) k = some (cl L[j]) := by
  by_cases h0 : 0 < L.length
  · obtain ⟨b, o, xs, e, fr, h1⟩ := hv.at h0
    exact ⟨b, o, xs, e, fr, fun _ => h1⟩
  · exact ⟨0, 0, [], 0, (0, 0), fun h1 => absurd h1 h0⟩
theorem cut_one {xs : List Value} {o n : Nat} {l : List Value} (h : V.cut xs o n = some l) (j : Nat) (hj : j < n) : xs[o + j]? = l[j]? := ((cut_spec h).2 j hj).symm
theorem do_good {x : HL} {s : ST} (he : doE x s = 0) : goodT s = true := by
  unfold doE at he
  cases hg : goodT s with
  | true => rfl
  | false => rw [hg] at he; exact absurd he (by simp)
/-! ### Houses of short steps -/
structure SI (x : HL) : Prop where
  b : ∀ e, e ∈ x.bs → Sm e.2.1
  r : ∀ s, s ∈ x.red → Sm s
theorem SI.new : SI HL.new := ⟨by simp [HL.new], by simp [HL.new]⟩
theorem SI.at {x : HL} (h : SI x) (d : Int × Int) : Sm (stAt x d) := by
  unfold stAt
  cases hq : MP.get x.bs d with
  | none => exact sm_zero
  | some s =>
    obtain ⟨e, h1, h2, h3⟩ := mem_of_get hq
    have := h.b e h1
    rw [h3] at this; exact this
theorem SI.blue {x : HL} (h : SI x) {s : ST} (z1 : s.name.size ≤ 100) (z2 : s.user.size ≤ 100) : SI (blueN x s) := by
  by_cases he : blueE x s = 0
  · rw [blueN_0 he]
    refine ⟨fun e h1 => ?_, h.r⟩
    rcases mem_put h1 with h2 | ⟨_, h2⟩
    · exact h.b e h2
    · rw [h2]; exact good_sm (blueE_0 he).1 (Nat.le_trans z1 (by decide)) (Nat.le_trans z2 (by decide))
  · rw [blueN_1 he]; exact h
theorem doN_bs (x : HL) (s : ST) : (doN x s).bs = x.bs ∧ (doN x s).red = x.red ++ [s] := by
  unfold doN
  cases decide (s.kind = 5)
  · cases decide (s.kind = 6)
    · cases mayEnd x s <;> exact ⟨rfl, rfl⟩
    · cases decide (s.amount ≤ s.funds - drawnF x (foldB s.user)) <;> exact ⟨rfl, rfl⟩
  · exact ⟨rfl, rfl⟩
theorem SI.red {x : HL} (h : SI x) {s : ST} (he : doE x s = 0) (z1 : s.name.size ≤ 100) (z2 : s.user.size ≤ 100) : SI (doN x s) := by
  refine ⟨fun e h1 => h.b e (by rw [(doN_bs x s).1] at h1; exact h1), fun t h1 => ?_⟩
  rw [(doN_bs x s).2, List.mem_append, List.mem_singleton] at h1
  rcases h1 with h1 | h1
  · exact h.r t h1
  · rw [h1]; exact good_sm (do_good he) (Nat.le_trans z1 (by decide)) (Nat.le_trans z2 (by decide))
abbrev hoP1 (x : HL) (rx : List Value) (ro rc : Nat) : List SO := [.cells (vcells x.v ++ [.mp 2, .sl 6 ro x.red.length rc, .mp 3, .mp 4, .mp 5]) T_auct_House,
  .map (ents encD encST x.bs) x.bc, .map (ents encT encB x.us) x.uc, .map (ents encT encN x.ds) x.dc, .map (ents encD encO x.cs) x.cc, .arr rx T_auct_Step]
structure GX where
  i : Nat
  x : HL
  rx : List Value
  ro : Nat
  rc : Nat
structure GI (n : Nat) (y : GX) : Prop where
  hi : y.i ≤ n
  hx : HI y.x y.i
  hr : RowG stcl 19 y.rx y.ro y.rc y.x.red
  si : SI y.x
theorem GI.new {n : Nat} : GI n ⟨0, HL.new, [], 0, 0⟩ := ⟨Nat.zero_le _, HI.new, row0, SI.new⟩
theorem blue_red (x : HL) (s : ST) : (blueN x s).red = x.red := by unfold blueN; cases decide (blueE x s = 0) <;> rfl
theorem makeE_0 {x : HL} {c : CT} {d : Int × Int} (h : makeE x c d = 0) : goodT (makeS x c d) = true ∧ makeN x c d = makeS x c d := by
  refine ⟨?_, by rw [makeN, h]; rfl⟩
  unfold makeE at h
  cases hg : goodT (makeS x c d) with
  | true => rfl
  | false => rw [hg] at h; exact absurd h (by simp)
set_option maxHeartbeats 4000000 in
theorem s_GenRefused (h : Nat → Option Obj) (hu : Uni h) (hc : CaseH h) (v : Value) (L : List ST) (hv : RowsIs stcl 19 h v L) (_ : True) (c : CT) (d1 d2 : Int) :
    Ctr Tryz.prog F_rostrumlaw25_GenRefused [.raw v, .agg (cacells c), .agg (dcells d1 d2)] [.heap h] (fun r H => r = bv true ∧ H = [.heap h]) := by
  obtain ⟨a1, c1, rfl⟩ := hv.shape
  obtain ⟨b1, o1, xs1, e1, fr1, p1⟩ := hv.pos
  have fin : ∀ l : List SO, VRet 1 (bv true) (.heap h :: l) (fun r H => r = bv true ∧ H = [.heap h]) := fun l => VRet.mk [0] (bv true) [.heap h] ⟨rfl, rfl, rfl⟩ ⟨rfl, rfl⟩
  refine i_rostrumlaw25_GenRefused.spec follows ?_
  refine VCall.mk [0] (s_awake h hu hc) ⟨rfl, rfl, rfl⟩ ?_
  rintro _ _ ⟨rfl, rfl⟩
  refine And.intro (fun k => absurd k (by decide)) (fun _ => ?_)
  refine And.intro (fun k1 => ?_) (fun k1 => fin _)
  have k1 : ¬ (25 : Int) < (L.length : Nat) := of_decide_eq_false k1
  refine And.intro (fun k2 => ?_) (fun k2 => fin _)
  have k2 : ¬ (100 : Int) < (c.name.size : Nat) := of_decide_eq_false k2
  refine And.intro (fun k3 => fin _) (fun k3 => ?_)
  have k3 : ¬ (100 : Int) < (c.user.size : Nat) := of_decide_eq_false k3
  have zn : c.name.size ≤ 1000 := by omega
  have zu : c.user.size ≤ 1000 := by omega
  refine VCall.mk [] s_New ⟨rfl, rfl, rfl⟩ ?_
  rintro _ _ ⟨rfl, rfl⟩
  refine VLoop.mk GX (fun y => [(0, .raw (.slice a1 L.length c1)), (4, .ptr 7 0), (5, .ptr 8 0), (7, .ptr 1 0), (8, iv y.i)])
    (fun y => .heap h :: hoP1 y.x y.rx y.ro y.rc ++ [.cells (cacells c) T_gen_Call, .cells (dcells d1 d2) T_api_Dot]) (GI L.length) (fun y => L.length - y.i) ⟨0, HL.new, [], 0, 0⟩ [0, 3, 4, 5, 6, 7, 8, 1, 2]
    ⟨GI.new, rfl, rfl, rfl⟩ ?_
  rintro ⟨i, x, rx, ro, rc⟩ ⟨hi, hx, hr, si⟩ g
  simp only at hi hx hr si
  refine And.intro (fun h1 => ?_) (fun h1 => ?_)
  · have h1 : (i : Int) < (L.length : Nat) := of_decide_eq_true h1
    have hil : i < L.length := Int.ofNat_lt.1 h1
    have hL25 : L.length ≤ 25 := by clear hx hr si; omega
    have hi25 : i < 25 := Nat.lt_of_lt_of_le hil hL25
    have hwi : IntKind.i64.wrap ((i : Int) + 1) = ((i + 1 : Nat) : Int) := wrapM hil (Nat.le_trans hL25 (by decide))
    have q1 := p1 (Nat.lt_of_le_of_lt (Nat.zero_le _) hil)
    obtain ⟨rfl, hh1, hcut1⟩ := q1
    have ci := hcut1 i hil
    have hni : (0 : Int) ≤ (i : Int) ∧ (i : Int) < (L.length : Nat) := ⟨Int.natCast_nonneg i, h1⟩
    have hld : ∀ {P : Prop}, P → P := fun h => h
    refine And.intro hni ?_
    refine Exists.intro 0 (Exists.intro xs1 (Exists.intro e1 (Exists.intro fr1 (And.intro hh1 (Exists.intro _ (And.intro (by rw [Int.toNat_natCast]; exact ci) ?_))))))
    refine VCall.mk [] (s_long L[i]) ⟨rfl, rfl, rfl⟩ ?_
    rintro _ _ ⟨rfl, rfl⟩
    refine And.intro (fun kl => fin _) (fun kl => ?_)
    have z12 := long_not kl
    obtain ⟨z1, z2⟩ := z12
    refine And.intro hni ?_
    refine Exists.intro 0 (Exists.intro xs1 (Exists.intro e1 (Exists.intro fr1 (And.intro hh1 (Exists.intro _ (And.intro (by rw [Int.toNat_natCast]; exact ci) ?_))))))
    refine VCall.mk [] (s_Red L[i]) ⟨rfl, rfl, rfl⟩ ?_
    rintro _ _ ⟨rfl, rfl⟩
    refine And.intro (fun kr => ?_) (fun kr => ?_)
    · refine And.intro hni ?_
      refine Exists.intro 0 (Exists.intro xs1 (Exists.intro e1 (Exists.intro fr1 (And.intro hh1 (Exists.intro _ (And.intro (by rw [Int.toNat_natCast]; exact ci) ?_))))))
      refine VCall.mk [1, 2, 3, 4, 5, 6, 0] (s_Do h hu hc x i hx (Nat.le_trans (Nat.le_of_lt hi25) (by decide)) rx ro rc hr L[i] (Nat.le_trans z1 (by decide)) (Nat.le_trans z2 (by decide))) ⟨rfl, rfl, rfl⟩ ?_
      rintro _ _ (⟨he, rfl, rfl⟩ | ⟨he, rfl, rx2, ro2, rc2, hr2, rfl⟩)
      · refine Exists.intro _ (And.intro hwi ?_)
        exact Exists.intro ⟨i + 1, x, rx, ro, rc⟩ (Exists.intro [0, 1, 2, 3, 4, 5, 6, 7, 8] (And.intro ⟨⟨hil, hx.mono (Nat.le_succ i), hr, si⟩, subM hil⟩ ⟨rfl, rfl, rfl⟩))
      · refine Exists.intro _ (And.intro hwi ?_)
        exact Exists.intro ⟨i + 1, doN x L[i], rx2, ro2, rc2⟩ (Exists.intro [0, 1, 2, 3, 4, 5, 9, 7, 8] (And.intro ⟨⟨hil, hx.red he, hr2, si.red he z1 z2⟩, subM hil⟩ ⟨rfl, rfl, rfl⟩))
    · refine And.intro hni ?_
      refine Exists.intro 0 (Exists.intro xs1 (Exists.intro e1 (Exists.intro fr1 (And.intro hh1 (Exists.intro _ (And.intro (by rw [Int.toNat_natCast]; exact ci) ?_))))))
      refine VCall.mk [1, 2, 3, 4, 5, 6, 0] (s_Blue h hu x hx.v rx ro rc L[i] (Nat.le_trans z1 (by decide)) (Nat.le_trans z2 (by decide))) ⟨rfl, rfl, rfl⟩ ?_
      rintro _ _ ⟨rfl, rfl⟩
      have hrb : RowG stcl 19 rx ro rc (blueN x L[i]).red := by rw [blue_red]; exact hr
      refine Exists.intro _ (And.intro hwi ?_)
      exact Exists.intro ⟨i + 1, blueN x L[i], rx, ro, rc⟩ (Exists.intro [0, 1, 2, 3, 4, 5, 6, 7, 8] (And.intro ⟨⟨hil, hx.blue (Nat.le_trans z2 (by decide)), hrb, si.blue z1 z2⟩, subM hil⟩ ⟨rfl, rfl, rfl⟩))
  · have hN : i ≤ 1000 := by clear hx hr si; omega
    have hB := s_Bytes x i hx hN si.at si.r rx ro rc hr
    refine VCall.mk [1, 2, 3, 4, 5, 6] hB ⟨rfl, rfl, rfl⟩ ?_
    rintro _ _ ⟨o2, c2, ys, rfl, rfl, hby⟩
    refine Exists.intro (strOf (bytesH x)) (And.intro ?_ ?_)
    · show some ((ys.drop o2).take ((bytesH x).length * 1), (bytesH x).length) = _
      rw [strOf_cells (bytesH_byt x), strOf_size, Nat.mul_one, hby.2.2]
    have hM := s_Make h hu hc x i hx (Nat.le_trans hN (by decide)) rx ro rc c (d1, d2) zn zu
    by_cases hE : makeE x c (d1, d2) = 0
    · obtain ⟨hg, hMN⟩ := makeE_0 hE
      rw [hMN, hE] at hM
      have hGd := s_Good h hu (makeS x c (d1, d2)) (Nat.le_trans zn (by decide)) (Nat.le_trans zu (by decide))
      rw [hg] at hGd
      refine VCall.mk [1, 2, 3, 4, 5, 6, 0] hM ⟨rfl, rfl, rfl⟩ ?_
      rintro _ _ ⟨rfl, rfl⟩
      refine VCall.mk [1, 2, 3, 4, 5, 6] hB ⟨rfl, rfl, rfl⟩ ?_
      rintro _ _ ⟨o3, c3, zs, rfl, rfl, hbz⟩
      refine Exists.intro (strOf (bytesH x)) (And.intro ?_ ?_)
      · show some ((zs.drop o3).take ((bytesH x).length * 1), (bytesH x).length) = _
        rw [strOf_cells (bytesH_byt x), strOf_size, Nat.mul_one, hbz.2.2]
      refine And.intro (fun k => absurd k (by simp)) (fun _ => ?_)
      refine And.intro (fun _ => ?_) (fun k => absurd k (by decide))
      refine VCall.mk [0] hGd ⟨rfl, rfl, rfl⟩ ?_
      rintro _ _ ⟨rfl, rfl⟩
      refine And.intro (fun _ => ?_) (fun k => absurd k (by decide))
      refine VCall.mk [1, 2, 3, 4, 5, 6] (s_Have x rx ro rc) ⟨rfl, rfl, rfl⟩ ?_
      rintro _ _ ⟨rfl, rfl⟩
      refine And.intro rfl ?_
      refine And.intro (fun _ => ?_) (fun k => absurd k (by simp [makeS, mk0]))
      refine VCall.mk [1, 2, 3, 4, 5, 6] (s_Reds x rx ro rc) ⟨rfl, rfl, rfl⟩ ?_
      rintro _ _ ⟨rfl, rfl⟩
      refine And.intro rfl ?_
      refine And.intro (fun _ => ?_) (fun k => absurd k (by simp [makeS, mk0]))
      refine And.intro (fun _ => ?_) (fun k => absurd k (by simp [makeS, mk0]))
      refine And.intro (fun _ => ?_) (fun k => absurd k (by simp [makeS, mk0]))
      refine VRet.mk [0] (bv _) [.heap h] ⟨rfl, rfl, rfl⟩ ⟨?_, rfl⟩
      show bv _ = bv _
      simp [makeS, mk0]
    · refine VCall.mk [1, 2, 3, 4, 5, 6, 0] hM ⟨rfl, rfl, rfl⟩ ?_
      rintro _ _ ⟨rfl, rfl⟩
      refine VCall.mk [1, 2, 3, 4, 5, 6] hB ⟨rfl, rfl, rfl⟩ ?_
      rintro _ _ ⟨o3, c3, zs, rfl, rfl, hbz⟩
      refine Exists.intro (strOf (bytesH x)) (And.intro ?_ ?_)
      · show some ((zs.drop o3).take ((bytesH x).length * 1), (bytesH x).length) = _
        rw [strOf_cells (bytesH_byt x), strOf_size, Nat.mul_one, hbz.2.2]
      refine And.intro (fun k => absurd k (by simp)) (fun _ => ?_)
      refine And.intro (fun k => absurd (of_decide_eq_true (nF' k)) hE) (fun k => ?_)
      repeat refine And.intro rfl ?_
      exact fin _
end Go.Proofs

namespace Go.Proofs
open Go Go.V Go.Lib
set_option maxRecDepth 100000
set_option linter.unusedVariables false

/-! ### Bytes behind a slice that came in -/
def u8c (n : Int) : List Value := [.int .u8 n]
theorem rows_take {xs : List Value} {o : Nat} {l : List Int} (hx : ∀ i (hi : i < l.length), V.cut xs (o + i * 1) 1 = some (u8c l[i])) : l.map (Value.int .u8) = (xs.drop o).take l.length := by
  apply List.ext_getElem?
  intro i
  by_cases hi : i < l.length
  · have h1 := cut_one (hx i hi) 0 (by decide)
    rw [List.getElem?_map, List.getElem?_eq_getElem hi, List.getElem?_take_of_lt hi, List.getElem?_drop]
    rw [show o + i * 1 + 0 = o + i by omega] at h1
    rw [h1]; rfl
  · rw [List.getElem?_eq_none (by simp; omega), List.getElem?_eq_none (by simp; omega)]
theorem s_CloneH (h : Nat → Option Obj) (v : Value) (l : List Int) (hv : RowsIs u8c 1 h v l) (hl : l.length ≤ 10000000) :
    Ctr Tryz.prog F_bytes_Clone [.raw v] [.heap h] (fun x H => ∃ o' c' ys, x = .sl 1 o' l.length c' ∧ H = [.heap h, .arr ys T_uint8] ∧ Brow ys o' c' l) := by
  rcases hv with ⟨⟨a, c, rfl⟩, rfl⟩ | ⟨b, o, c, xs, e, fr, rfl, hb, hx⟩
  · cases a with
    | none =>
      refine i_bytes_Clone.spec follows ?_
      exact VRet.nil T_uint8 [0] [] ⟨rfl, rfl⟩ (VRet.mk [0, 1] (.sl 1 0 0 0) [.heap h, .arr [] T_uint8] ⟨rfl, rfl, rfl⟩ ⟨0, 0, [], rfl, rfl, brow_nil⟩)
    | some a =>
      refine i_bytes_Clone.spec follows ?_
      refine Exists.intro [] (And.intro (.inl ⟨rfl, rfl⟩) ?_)
      refine And.intro ⟨⟨Nat.zero_le _, by simp, rfl⟩, ⟨by simp, rfl⟩, by omega⟩ ?_
      intro zs' o' c' hz
      refine VRet.mk [0, 2] (.sl 1 o' (0 + 0) c') [.heap h, .arr zs' T_uint8] ⟨rfl, rfl, rfl⟩ ⟨o', c', zs', rfl, rfl, Nat.zero_le _, ?_, ?_⟩
      · have := hz.2.1; omega
      · simp
  · refine i_bytes_Clone.spec follows ?_
    refine Exists.intro (l.map (Value.int .u8)) (And.intro ?_ ?_)
    · refine .inr ⟨0, b, o, xs, e, fr, rfl, hb, ?_⟩
      rw [Nat.mul_one]; exact rows_take hx
    refine And.intro ⟨⟨Nat.zero_le _, by simp, rfl⟩, ⟨by simp, cellsOK_ints l⟩, by omega⟩ ?_
    intro zs' o' c' hz
    refine VRet.mk [0, 2] (.sl 1 o' (0 + l.length) c') [.heap h, .arr zs' T_uint8] ⟨rfl, rfl, rfl⟩ ⟨o', c', zs', by rw [Nat.zero_add], rfl, ?_, ?_, ?_⟩
    · have := hz.1; omega
    · have := hz.2.1; omega
    · have := hz.2.2
      simpa using this
theorem s_ReadH (h : Nat → Option Obj) (v : Value) (l : List Int) (hv : RowsIs u8c 1 h v l) (hl : l.length ≤ 10000000) :
    Ctr Tryz.prog F_pack_Read [.raw v] [.heap h] (fun x H => ∃ o' c' ys, x = .ptr 2 0 ∧ H = [.heap h, .arr ys T_uint8, .cells (rdc 1 o' l.length c' false) T_pack_Reader] ∧ Brow ys o' c' l) := by
  refine i_pack_Read.spec follows ?_
  refine VCall.mk [0] (s_CloneH h v l hv hl) ⟨rfl, rfl, rfl⟩ ?_
  rintro _ _ ⟨o', c', ys, rfl, rfl, hB⟩
  exact VRet.mk [0, 1, 2] (.ptr 2 0) [.heap h, .arr ys T_uint8, .cells (rdc 1 o' l.length c' false) T_pack_Reader] ⟨rfl, rfl, rfl⟩ ⟨o', c', ys, rfl, rfl, hB⟩
set_option maxHeartbeats 4000000 in
theorem s_gen_GetH (h : Nat → Option Obj) (hu : Uni h) (l : List Int) (v : Value) (hv : RowsIs u8c 1 h v l) (hb0 : ∀ b ∈ l, 0 ≤ b ∧ b < 256) (hl0 : l.length ≤ 1000000) :
    Ctr Tryz.prog F_gen_Get [.raw v] [.heap h] (fun r H => r = getV (getSt l) ∧ H = [.heap h]) := by
  have fin : ∀ (k : List SO), getSt l = none → VRet 1 (.tup [.agg (stcells zeroT'), iv 3]) ([.heap h] ++ k) (fun r H => r = getV (getSt l) ∧ H = [.heap h]) := by
    intro k e
    exact VRet.mk [0] (.tup [.agg (stcells zeroT'), iv 3]) [.heap h] ⟨rfl, rfl, rfl⟩ ⟨by rw [e]; rfl, rfl⟩
  refine i_gen_Get.spec follows ?_
  refine VCall.mk [0] (s_ReadH h v l hv (Nat.le_trans hl0 (by decide))) ⟨rfl, rfl, rfl⟩ ?_
  rintro _ _ ⟨o0, c0, ys, rfl, rfl, hB0⟩
  refine VCall.mk [3, 2] (s_Num l 0 7 o0 c0 false ys T_uint8 hB0 hb0) ⟨rfl, rfl, rfl⟩ ?_
  rintro _ _ (⟨v1, l1, h1, rfl, o1, c1, rfl, hB1, hf1⟩ | ⟨h1, rfl, rfl⟩)
  rotate_left 1
  · refine VCall.mk [3, 5] (s_dotF T_uint8) ⟨rfl, rfl, rfl⟩ ?_
    rintro _ _ ⟨rfl, rfl⟩
    refine VCall.mk [3, 6] (s_vecF T_uint8) ⟨rfl, rfl, rfl⟩ ?_
    rintro _ _ ⟨rfl, rfl⟩
    refine VCall.mk [3, 7] (s_NumF 0 1000 T_uint8) ⟨rfl, rfl, rfl⟩ ?_
    rintro _ _ ⟨rfl, rfl⟩
    refine VCall.mk [3, 8] (s_TextF T_uint8 80 (by decide)) ⟨rfl, rfl, rfl⟩ ?_
    rintro _ _ ⟨rfl, rfl⟩
    refine VCall.mk [3, 9] (s_TextF T_uint8 80 (by decide)) ⟨rfl, rfl, rfl⟩ ?_
    rintro _ _ ⟨rfl, rfl⟩
    refine VCall.mk [3, 10] (s_dotF T_uint8) ⟨rfl, rfl, rfl⟩ ?_
    rintro _ _ ⟨rfl, rfl⟩
    refine VCall.mk [3, 11] (s_dotF T_uint8) ⟨rfl, rfl, rfl⟩ ?_
    rintro _ _ ⟨rfl, rfl⟩
    refine VCall.mk [3, 12] (s_NumF 0 1000000000 T_uint8) ⟨rfl, rfl, rfl⟩ ?_
    rintro _ _ ⟨rfl, rfl⟩
    refine VCall.mk [3, 13] (s_NumF 0 1125899906842624 T_uint8) ⟨rfl, rfl, rfl⟩ ?_
    rintro _ _ ⟨rfl, rfl⟩
    refine VCall.mk [3, 14] (s_End 0 0 0 true [] T_uint8) ⟨rfl, rfl, rfl⟩ ?_
    rintro _ _ ⟨rfl, rfl⟩
    refine And.intro (fun k => absurd k (by decide)) (fun _ => ?_)
    exact fin _ (by simp [getSt, h1])
  have hb1 : ∀ b ∈ l1, 0 ≤ b ∧ b < 256 := fun b hb => hb0 b (hf1.mem hb)
  have hl1 : l1.length ≤ 1000000 := Nat.le_trans hf1.length_le hl0
  refine VCall.mk [3, 2] (s_dot l1 o1 c1 ys T_uint8 hB1 hb1) ⟨rfl, rfl, rfl⟩ ?_
  rintro _ _ (⟨v2, l2, h2, rfl, o2, c2, rfl, hB2, hf2⟩ | ⟨h2, rfl, rfl⟩)
  rotate_left 1
  · refine VCall.mk [3, 5] (s_vecF T_uint8) ⟨rfl, rfl, rfl⟩ ?_
    rintro _ _ ⟨rfl, rfl⟩
    refine VCall.mk [3, 6] (s_NumF 0 1000 T_uint8) ⟨rfl, rfl, rfl⟩ ?_
    rintro _ _ ⟨rfl, rfl⟩
    refine VCall.mk [3, 7] (s_TextF T_uint8 80 (by decide)) ⟨rfl, rfl, rfl⟩ ?_
    rintro _ _ ⟨rfl, rfl⟩
    refine VCall.mk [3, 8] (s_TextF T_uint8 80 (by decide)) ⟨rfl, rfl, rfl⟩ ?_
    rintro _ _ ⟨rfl, rfl⟩
    refine VCall.mk [3, 9] (s_dotF T_uint8) ⟨rfl, rfl, rfl⟩ ?_
    rintro _ _ ⟨rfl, rfl⟩
    refine VCall.mk [3, 10] (s_dotF T_uint8) ⟨rfl, rfl, rfl⟩ ?_
    rintro _ _ ⟨rfl, rfl⟩
    refine VCall.mk [3, 11] (s_NumF 0 1000000000 T_uint8) ⟨rfl, rfl, rfl⟩ ?_
    rintro _ _ ⟨rfl, rfl⟩
    refine VCall.mk [3, 12] (s_NumF 0 1125899906842624 T_uint8) ⟨rfl, rfl, rfl⟩ ?_
    rintro _ _ ⟨rfl, rfl⟩
    refine VCall.mk [3, 13] (s_End 0 0 0 true [] T_uint8) ⟨rfl, rfl, rfl⟩ ?_
    rintro _ _ ⟨rfl, rfl⟩
    refine And.intro (fun k => absurd k (by decide)) (fun _ => ?_)
    exact fin _ (by simp [getSt, h1, h2])
  have hb2 : ∀ b ∈ l2, 0 ≤ b ∧ b < 256 := fun b hb => hb1 b (hf2.mem hb)
  have hl2 : l2.length ≤ 1000000 := Nat.le_trans hf2.length_le hl1
  refine VCall.mk [3, 2] (s_vec_Get l2 o2 c2 ys T_uint8 hB2 hb2) ⟨rfl, rfl, rfl⟩ ?_
  rintro _ _ (⟨v3, l3, h3, rfl, o3, c3, rfl, hB3, hf3⟩ | ⟨h3, rfl, rfl⟩)
  rotate_left 1
  · refine VCall.mk [3, 5] (s_NumF 0 1000 T_uint8) ⟨rfl, rfl, rfl⟩ ?_
    rintro _ _ ⟨rfl, rfl⟩
    refine VCall.mk [3, 6] (s_TextF T_uint8 80 (by decide)) ⟨rfl, rfl, rfl⟩ ?_
    rintro _ _ ⟨rfl, rfl⟩
    refine VCall.mk [3, 7] (s_TextF T_uint8 80 (by decide)) ⟨rfl, rfl, rfl⟩ ?_
    rintro _ _ ⟨rfl, rfl⟩
    refine VCall.mk [3, 8] (s_dotF T_uint8) ⟨rfl, rfl, rfl⟩ ?_
    rintro _ _ ⟨rfl, rfl⟩
    refine VCall.mk [3, 9] (s_dotF T_uint8) ⟨rfl, rfl, rfl⟩ ?_
    rintro _ _ ⟨rfl, rfl⟩
    refine VCall.mk [3, 10] (s_NumF 0 1000000000 T_uint8) ⟨rfl, rfl, rfl⟩ ?_
    rintro _ _ ⟨rfl, rfl⟩
    refine VCall.mk [3, 11] (s_NumF 0 1125899906842624 T_uint8) ⟨rfl, rfl, rfl⟩ ?_
    rintro _ _ ⟨rfl, rfl⟩
    refine VCall.mk [3, 12] (s_End 0 0 0 true [] T_uint8) ⟨rfl, rfl, rfl⟩ ?_
    rintro _ _ ⟨rfl, rfl⟩
    refine And.intro (fun k => absurd k (by decide)) (fun _ => ?_)
    exact fin _ (by simp [getSt, h1, h2, h3])
  have hb3 : ∀ b ∈ l3, 0 ≤ b ∧ b < 256 := fun b hb => hb2 b (hf3.mem hb)
  have hl3 : l3.length ≤ 1000000 := Nat.le_trans hf3.length_le hl2
  refine VCall.mk [3, 2] (s_Num l3 0 1000 o3 c3 false ys T_uint8 hB3 hb3) ⟨rfl, rfl, rfl⟩ ?_
  rintro _ _ (⟨v4, l4, h4, rfl, o4, c4, rfl, hB4, hf4⟩ | ⟨h4, rfl, rfl⟩)
  rotate_left 1
  · refine VCall.mk [3, 5] (s_TextF T_uint8 80 (by decide)) ⟨rfl, rfl, rfl⟩ ?_
    rintro _ _ ⟨rfl, rfl⟩
    refine VCall.mk [3, 6] (s_TextF T_uint8 80 (by decide)) ⟨rfl, rfl, rfl⟩ ?_
    rintro _ _ ⟨rfl, rfl⟩
    refine VCall.mk [3, 7] (s_dotF T_uint8) ⟨rfl, rfl, rfl⟩ ?_
    rintro _ _ ⟨rfl, rfl⟩
    refine VCall.mk [3, 8] (s_dotF T_uint8) ⟨rfl, rfl, rfl⟩ ?_
    rintro _ _ ⟨rfl, rfl⟩
    refine VCall.mk [3, 9] (s_NumF 0 1000000000 T_uint8) ⟨rfl, rfl, rfl⟩ ?_
    rintro _ _ ⟨rfl, rfl⟩
    refine VCall.mk [3, 10] (s_NumF 0 1125899906842624 T_uint8) ⟨rfl, rfl, rfl⟩ ?_
    rintro _ _ ⟨rfl, rfl⟩
    refine VCall.mk [3, 11] (s_End 0 0 0 true [] T_uint8) ⟨rfl, rfl, rfl⟩ ?_
    rintro _ _ ⟨rfl, rfl⟩
    refine And.intro (fun k => absurd k (by decide)) (fun _ => ?_)
    exact fin _ (by simp [getSt, h1, h2, h3, h4])
  have hb4 : ∀ b ∈ l4, 0 ≤ b ∧ b < 256 := fun b hb => hb3 b (hf4.mem hb)
  have hl4 : l4.length ≤ 1000000 := Nat.le_trans hf4.length_le hl3
  refine VCall.mk [3, 2] (s_Text l4 o4 c4 false ys T_uint8 80 (by decide) hB4 hb4 hl4) ⟨rfl, rfl, rfl⟩ ?_
  rintro _ _ (⟨v5, l5, h5, rfl, o5, c5, rfl, hB5, hf5⟩ | ⟨h5, rfl, rfl⟩)
  rotate_left 1
  · refine VCall.mk [3, 5] (s_TextF T_uint8 80 (by decide)) ⟨rfl, rfl, rfl⟩ ?_
    rintro _ _ ⟨rfl, rfl⟩
    refine VCall.mk [3, 6] (s_dotF T_uint8) ⟨rfl, rfl, rfl⟩ ?_
    rintro _ _ ⟨rfl, rfl⟩
    refine VCall.mk [3, 7] (s_dotF T_uint8) ⟨rfl, rfl, rfl⟩ ?_
    rintro _ _ ⟨rfl, rfl⟩
    refine VCall.mk [3, 8] (s_NumF 0 1000000000 T_uint8) ⟨rfl, rfl, rfl⟩ ?_
    rintro _ _ ⟨rfl, rfl⟩
    refine VCall.mk [3, 9] (s_NumF 0 1125899906842624 T_uint8) ⟨rfl, rfl, rfl⟩ ?_
    rintro _ _ ⟨rfl, rfl⟩
    refine VCall.mk [3, 10] (s_End 0 0 0 true [] T_uint8) ⟨rfl, rfl, rfl⟩ ?_
    rintro _ _ ⟨rfl, rfl⟩
    refine And.intro (fun k => absurd k (by decide)) (fun _ => ?_)
    exact fin _ (by simp [getSt, h1, h2, h3, h4, h5])
  have hb5 : ∀ b ∈ l5, 0 ≤ b ∧ b < 256 := fun b hb => hb4 b (hf5.mem hb)
  have hl5 : l5.length ≤ 1000000 := Nat.le_trans hf5.length_le hl4
  refine VCall.mk [3, 2] (s_Text l5 o5 c5 false ys T_uint8 80 (by decide) hB5 hb5 hl5) ⟨rfl, rfl, rfl⟩ ?_
  rintro _ _ (⟨v6, l6, h6, rfl, o6, c6, rfl, hB6, hf6⟩ | ⟨h6, rfl, rfl⟩)
  rotate_left 1
  · refine VCall.mk [3, 5] (s_dotF T_uint8) ⟨rfl, rfl, rfl⟩ ?_
    rintro _ _ ⟨rfl, rfl⟩
    refine VCall.mk [3, 6] (s_dotF T_uint8) ⟨rfl, rfl, rfl⟩ ?_
    rintro _ _ ⟨rfl, rfl⟩
    refine VCall.mk [3, 7] (s_NumF 0 1000000000 T_uint8) ⟨rfl, rfl, rfl⟩ ?_
    rintro _ _ ⟨rfl, rfl⟩
    refine VCall.mk [3, 8] (s_NumF 0 1125899906842624 T_uint8) ⟨rfl, rfl, rfl⟩ ?_
    rintro _ _ ⟨rfl, rfl⟩
    refine VCall.mk [3, 9] (s_End 0 0 0 true [] T_uint8) ⟨rfl, rfl, rfl⟩ ?_
    rintro _ _ ⟨rfl, rfl⟩
    refine And.intro (fun k => absurd k (by decide)) (fun _ => ?_)
    exact fin _ (by simp [getSt, h1, h2, h3, h4, h5, h6])
  have hb6 : ∀ b ∈ l6, 0 ≤ b ∧ b < 256 := fun b hb => hb5 b (hf6.mem hb)
  have hl6 : l6.length ≤ 1000000 := Nat.le_trans hf6.length_le hl5
  refine VCall.mk [3, 2] (s_dot l6 o6 c6 ys T_uint8 hB6 hb6) ⟨rfl, rfl, rfl⟩ ?_
  rintro _ _ (⟨v7, l7, h7, rfl, o7, c7, rfl, hB7, hf7⟩ | ⟨h7, rfl, rfl⟩)
  rotate_left 1
  · refine VCall.mk [3, 5] (s_dotF T_uint8) ⟨rfl, rfl, rfl⟩ ?_
    rintro _ _ ⟨rfl, rfl⟩
    refine VCall.mk [3, 6] (s_NumF 0 1000000000 T_uint8) ⟨rfl, rfl, rfl⟩ ?_
    rintro _ _ ⟨rfl, rfl⟩
    refine VCall.mk [3, 7] (s_NumF 0 1125899906842624 T_uint8) ⟨rfl, rfl, rfl⟩ ?_
    rintro _ _ ⟨rfl, rfl⟩
    refine VCall.mk [3, 8] (s_End 0 0 0 true [] T_uint8) ⟨rfl, rfl, rfl⟩ ?_
    rintro _ _ ⟨rfl, rfl⟩
    refine And.intro (fun k => absurd k (by decide)) (fun _ => ?_)
    exact fin _ (by simp [getSt, h1, h2, h3, h4, h5, h6, h7])
  have hb7 : ∀ b ∈ l7, 0 ≤ b ∧ b < 256 := fun b hb => hb6 b (hf7.mem hb)
  have hl7 : l7.length ≤ 1000000 := Nat.le_trans hf7.length_le hl6
  refine VCall.mk [3, 2] (s_dot l7 o7 c7 ys T_uint8 hB7 hb7) ⟨rfl, rfl, rfl⟩ ?_
  rintro _ _ (⟨v8, l8, h8, rfl, o8, c8, rfl, hB8, hf8⟩ | ⟨h8, rfl, rfl⟩)
  rotate_left 1
  · refine VCall.mk [3, 5] (s_NumF 0 1000000000 T_uint8) ⟨rfl, rfl, rfl⟩ ?_
    rintro _ _ ⟨rfl, rfl⟩
    refine VCall.mk [3, 6] (s_NumF 0 1125899906842624 T_uint8) ⟨rfl, rfl, rfl⟩ ?_
    rintro _ _ ⟨rfl, rfl⟩
    refine VCall.mk [3, 7] (s_End 0 0 0 true [] T_uint8) ⟨rfl, rfl, rfl⟩ ?_
    rintro _ _ ⟨rfl, rfl⟩
    refine And.intro (fun k => absurd k (by decide)) (fun _ => ?_)
    exact fin _ (by simp [getSt, h1, h2, h3, h4, h5, h6, h7, h8])
  have hb8 : ∀ b ∈ l8, 0 ≤ b ∧ b < 256 := fun b hb => hb7 b (hf8.mem hb)
  have hl8 : l8.length ≤ 1000000 := Nat.le_trans hf8.length_le hl7
  refine VCall.mk [3, 2] (s_Num l8 0 1000000000 o8 c8 false ys T_uint8 hB8 hb8) ⟨rfl, rfl, rfl⟩ ?_
  rintro _ _ (⟨v9, l9, h9, rfl, o9, c9, rfl, hB9, hf9⟩ | ⟨h9, rfl, rfl⟩)
  rotate_left 1
  · refine VCall.mk [3, 5] (s_NumF 0 1125899906842624 T_uint8) ⟨rfl, rfl, rfl⟩ ?_
    rintro _ _ ⟨rfl, rfl⟩
    refine VCall.mk [3, 6] (s_End 0 0 0 true [] T_uint8) ⟨rfl, rfl, rfl⟩ ?_
    rintro _ _ ⟨rfl, rfl⟩
    refine And.intro (fun k => absurd k (by decide)) (fun _ => ?_)
    exact fin _ (by simp [getSt, h1, h2, h3, h4, h5, h6, h7, h8, h9])
  have hb9 : ∀ b ∈ l9, 0 ≤ b ∧ b < 256 := fun b hb => hb8 b (hf9.mem hb)
  have hl9 : l9.length ≤ 1000000 := Nat.le_trans hf9.length_le hl8
  refine VCall.mk [3, 2] (s_Num l9 0 1125899906842624 o9 c9 false ys T_uint8 hB9 hb9) ⟨rfl, rfl, rfl⟩ ?_
  rintro _ _ (⟨v10, l10, h10, rfl, o10, c10, rfl, hB10, hf10⟩ | ⟨h10, rfl, rfl⟩)
  rotate_left 1
  · refine VCall.mk [3, 5] (s_End 0 0 0 true [] T_uint8) ⟨rfl, rfl, rfl⟩ ?_
    rintro _ _ ⟨rfl, rfl⟩
    refine And.intro (fun k => absurd k (by decide)) (fun _ => ?_)
    exact fin _ (by simp [getSt, h1, h2, h3, h4, h5, h6, h7, h8, h9, h10])
  have hb10 : ∀ b ∈ l10, 0 ≤ b ∧ b < 256 := fun b hb => hb9 b (hf10.mem hb)
  have hl10 : l10.length ≤ 1000000 := Nat.le_trans hf10.length_le hl9
  refine VCall.mk [3, 2] (s_End o10 l10.length c10 false ys T_uint8) ⟨rfl, rfl, rfl⟩ ?_
  rintro _ _ ⟨rfl, rfl⟩
  have hall : getSt l = if l10.length = 0 ∧ goodT (getRow v1 v2 v3 v4 v5 v6 v7 v8 v9 v10) = true then some (getRow v1 v2 v3 v4 v5 v6 v7 v8 v9 v10) else none := by
    simp only [getSt, h1, h2, h3, h4, h5, h6, h7, h8, h9, h10, Option.bind_some]
  refine And.intro (fun k => ?_) (fun k => ?_)
  rotate_left 1
  · exact fin _ (by rw [hall, if_neg]; rintro ⟨e, _⟩; rw [e] at k; exact absurd k (by decide))
  have e : l10.length = 0 := by simpa using k
  have s5 := rdText_size h5
  have s6 := rdText_size h6
  refine VCall.mk [0] (s_Good h hu (getRow v1 v2 v3 v4 v5 v6 v7 v8 v9 v10) (show v5.size ≤ _ by omega) (show v6.size ≤ _ by omega)) ⟨rfl, rfl, rfl⟩ ?_
  rintro _ _ ⟨rfl, rfl⟩
  refine And.intro (fun k2 => ?_) (fun k2 => ?_)
  · have k2 := nT' k2
    exact fin _ (by rw [hall, if_neg]; rintro ⟨_, e⟩; rw [k2] at e; cases e)
  · have k2 := nF' k2
    rw [if_pos ⟨e, k2⟩] at hall
    exact VRet.mk [0] (.tup [.agg (stcells (getRow v1 v2 v3 v4 v5 v6 v7 v8 v9 v10)), iv 0]) [.heap h] ⟨rfl, rfl, rfl⟩ ⟨by rw [hall]; rfl, rfl⟩
end Go.Proofs

namespace Go.Proofs
open Go Go.V Go.Lib
set_option maxRecDepth 100000
set_option linter.unusedVariables false

/-! ### The document's own reader -/
abbrev rrh (a : Option Addr) (n c : Nat) (at' : Int) (bad : Bool) : List SV := [.raw (.slice a n c), iv at', bv bad]
def RawInv (L : List Int) (at0 : Nat) (x : NXr) : Prop := x.i ≤ 10 ∧ ((x.i ≤ 9 ∧ ∃ n : Nat, x.u = n ∧ n < 2 ^ (7 * x.i) ∧ rd (L.drop at0) 0 0 = rd (L.drop (at0 + x.i)) x.i n) ∨ (x.i = 10 ∧ rd (L.drop at0) 0 0 = none))
theorem s_ref_End (hp : Nat → Option Obj) (a : Option Addr) (n c at0 : Nat) (bad : Bool) : Ctr Tryz.prog F_rostrumref1_Reader_End [.ptr 0 0] [.cells (rrh a n c at0 bad) T_rostrumref1_Reader, .heap hp]
    (fun x H => x = bv (!bad && decide (at0 = n)) ∧ H = [.cells (rrh a n c at0 bad) T_rostrumref1_Reader, .heap hp]) := by
  refine i_rostrumref1_Reader_End.spec follows ?_
  refine And.intro (fun h => ?_) (fun h => ?_)
  · have h : (!bad) = true := h
    refine VRet.mk [0, 1] (bv _) [.cells (rrh a n c at0 bad) T_rostrumref1_Reader, .heap hp] ⟨rfl, rfl, rfl⟩ ⟨?_, rfl⟩
    show bv _ = bv _
    rw [h]; simp only [Bool.true_and]
    congr 2; simp [Int.natCast_inj]
  · have h : (!bad) = false := h
    refine VRet.mk [0, 1] (bv false) [.cells (rrh a n c at0 bad) T_rostrumref1_Reader, .heap hp] ⟨rfl, rfl, rfl⟩ ⟨?_, rfl⟩
    show bv _ = bv _
    rw [h]; simp
theorem fitOK {x i : Nat} (hi : i ≤ 9) (hx : x < 128) (h9 : i = 9 → x ≤ 1) : x * 2 ^ (7 * i) < 18446744073709551616 := by
  by_cases h : i = 9
  · subst h
    have e : (2 : Nat) ^ (7 * 9) = 9223372036854775808 := by decide
    rw [e]
    have := h9 rfl
    omega
  · have hp : ∀ j, j ≤ 8 → 128 * 2 ^ (7 * j) ≤ 18446744073709551616 := by
      intro j hj
      match j, hj with | 0, _ | 1, _ | 2, _ | 3, _ | 4, _ | 5, _ | 6, _ | 7, _ | 8, _ => decide
    have h5 := hp i (by omega)
    have h6 := Nat.mul_lt_mul_of_pos_right hx (Nat.two_pow_pos (7 * i))
    omega
set_option maxHeartbeats 4000000 in
theorem s_raw (hp : Nat → Option Obj) (L : List Int) (a : Option Addr) (c at0 : Nat) (bad : Bool) (hv : RowsIs u8c 1 hp (.slice a L.length c) L) (hby : ∀ b ∈ L, 0 ≤ b ∧ b < 256) (hat : at0 ≤ L.length) (hlen : L.length ≤ 1000000) :
    Ctr Tryz.prog F_rostrumref1_Reader_raw [.ptr 0 0] [.cells (rrh a L.length c at0 bad) T_rostrumref1_Reader, .heap hp]
    (fun x H => ∃ u ok at1, x = .tup [.raw (.int .u64 u), bv ok] ∧ H = [.cells (rrh a L.length c at1 bad) T_rostrumref1_Reader, .heap hp] ∧
      ((ok = false ∧ rd (L.drop at0) 0 0 = none ∧ ∃ n : Nat, u = n ∧ n < 18446744073709551616) ∨ (ok = true ∧ ∃ (n k : Nat), u = n ∧ n < 18446744073709551616 ∧ at1 = (k : Int) ∧ k ≤ L.length ∧ rd (L.drop at0) 0 0 = some (n, L.drop k)))) := by
  obtain ⟨b1, o, xs, te, fr1, p1⟩ := hv.pos
  refine i_rostrumref1_Reader_raw.spec follows ?_
  refine VLoop.mk NXr (fun x => [(0, .ptr 0 0), (4, .raw (.int .u64 x.u)), (5, iv x.i)]) (fun x => [.cells (rrh a L.length c at0 bad) T_rostrumref1_Reader, .heap hp])
    (RawInv L at0) (fun x => 10 - x.i) ⟨0, 0⟩ [0, 1] ⟨⟨Nat.zero_le _, .inl ⟨by simp, 0, rfl, by simp, by simp⟩⟩, rfl, rfl, rfl⟩ ?_
  rintro ⟨i, u⟩ ⟨hi, hinv⟩ g
  simp only at hi hinv
  refine And.intro (fun h => ?_) (fun h => ?_)
  · have h : (i : Int) < 10 := of_decide_eq_true h
    obtain ⟨hi9, n, hun, hnn, hr0⟩ : i ≤ 9 ∧ ∃ n : Nat, u = n ∧ n < 2 ^ (7 * i) ∧ rd (L.drop at0) 0 0 = rd (L.drop (at0 + i)) i n := by
      rcases hinv with h | ⟨h, _⟩
      · exact h
      · omega
    refine Exists.intro _ (And.intro (wrap64 (n := (at0 : Int) + (i : Int)) (by omega)) ?_)
    refine And.intro (fun g1 => ?_) (fun g1 => ?_)
    · have g1 : (at0 : Int) + (i : Int) < (L.length : Int) := of_decide_eq_true g1
      have hil : at0 + i < L.length := by omega
      have q1 := p1 (by omega)
      obtain ⟨rfl, hh1, hcut1⟩ := q1
      rw [List.drop_eq_getElem_cons hil] at hr0
      have hbb := hby L[at0 + i] (List.getElem_mem hil)
      obtain ⟨k, hk⟩ : ∃ k : Nat, L[at0 + i] = k := ⟨L[at0 + i].toNat, by omega⟩
      have hk256 : k < 256 := by omega
      have hget : xs[o + ((at0 : Int) + (i : Int)).toNat * 1]? = some (.int .u8 L[at0 + i]) := by
        have h1 := cut_one (hcut1 (at0 + i) hil) 0 (by decide)
        rw [show ((at0 : Int) + (i : Int)).toNat * 1 = (at0 + i) * 1 + 0 by omega, ← Nat.add_assoc, h1]; rfl
      refine Exists.intro _ (And.intro (wrap64 (n := (at0 : Int) + (i : Int)) (by omega)) ?_)
      refine And.intro ⟨by omega, g1⟩ (Exists.intro 1 (Exists.intro xs (Exists.intro te (Exists.intro fr1 (And.intro hh1 (Exists.intro _ (And.intro hget ?_)))))))
      refine And.intro (fun g2 => ?_) (fun g2 => ?_)
      · have g2 : (i : Int) = 9 := of_decide_eq_true g2
        refine And.intro (fun g5 => ?_) (fun g5 => ?_)
        · have g5 : 1 < L[at0 + i] := of_decide_eq_true g5
          refine VRet.mk [0, 1] (.tup [.raw (.int .u64 0), bv false]) [.cells (rrh _ L.length c at0 bad) T_rostrumref1_Reader, .heap hp] ⟨rfl, rfl, rfl⟩ ⟨0, false, at0, rfl, rfl, .inl ⟨rfl, ?_, 0, rfl, by omega⟩⟩
          rw [hr0, rd, if_neg (by omega)]
          by_cases h128 : 128 ≤ L[at0 + i]
          · rw [if_pos h128, show i + 1 = 10 by omega, rd_ten]
          · rw [if_neg h128, if_pos (by right; omega)]
        · have g5 : ¬ 1 < L[at0 + i] := of_decide_eq_false g5
          have hfit : k % 128 * 2 ^ (7 * i) < 18446744073709551616 := fitOK hi9 (by omega) (by omega)
          have hub := orBound hi9 hnn hfit
          have e1 : intBits .and .u8 L[at0 + i] 127 = ((k % 128 : Nat) : Int) := by rw [hk]; exact and127 hk256
          refine Exists.intro _ (And.intro e1 ?_)
          clear e1
          refine Exists.intro _ (And.intro (w64u (n := ((k % 128 : Nat) : Int)) (by omega)) ?_)
          have e3 : IntKind.i64.wrap (7 * (i : Int)) = ((7 * i : Nat) : Int) := by rw [wrap64 (by omega)]; omega
          refine Exists.intro _ (And.intro e3 ?_)
          clear e3
          refine Exists.intro _ (And.intro (w64u (n := ((7 * i : Nat) : Int)) (by omega)) ?_)
          refine And.intro (Int.natCast_nonneg _) (Exists.intro _ (And.intro (shl7 (k % 128) hi9) ?_))
          have hor : intBits .or .u64 u (((k % 128 * 2 ^ (7 * i)) % 18446744073709551616 : Nat) : Int) = ((n + k % 128 * 2 ^ (7 * i) : Nat) : Int) := by rw [hun, Nat.mod_eq_of_lt hfit]; exact orAdd hi9 hnn hfit
          refine Exists.intro _ (And.intro hor ?_)
          clear hor
          refine And.intro (fun g3 => ?_) (fun g3 => ?_)
          · have g3 : L[at0 + i] < 128 := of_decide_eq_true g3
            have hkm : k % 128 = k := by omega
            refine Exists.intro _ (And.intro (wrap64 (n := (at0 : Int) + (i : Int)) (by omega)) ?_)
            refine Exists.intro _ (And.intro (wrap64 (n := (at0 : Int) + (i : Int) + 1) (by omega)) ?_)
            have hlast : rd (L.drop at0) 0 0 = if (0 < i ∧ L[at0 + i] = 0) ∨ (i = 9 ∧ 1 < L[at0 + i]) then none else some (n + k % 128 * 2 ^ (7 * i), L.drop (at0 + i + 1)) := by
              rw [hr0, rd, if_neg (by omega), if_neg (by omega), hkm]
              have : L[at0 + i].toNat = k := by omega
              rw [this]
            refine And.intro (fun g4 => ?_) (fun g4 => ?_)
            · have g4 : ¬ 0 < L[at0 + i] := of_decide_eq_false g4
              refine VRet.mk [0, 1] (.tup [.raw (.int .u64 ((n + k % 128 * 2 ^ (7 * i) : Nat) : Int)), bv (decide ((i : Int) = 0))]) [.cells (rrh _ L.length c ((at0 : Int) + i + 1) bad) T_rostrumref1_Reader, .heap hp] ⟨rfl, rfl, rfl⟩ ⟨_, _, _, rfl, rfl, ?_⟩
              by_cases h0 : i = 0
              · right
                refine ⟨by simp [h0], _, at0 + i + 1, rfl, hub, by omega, by omega, ?_⟩
                rw [hlast, if_neg (by omega)]
              · left
                refine ⟨by simp; omega, ?_, _, rfl, hub⟩
                rw [hlast, if_pos (by left; omega)]
            · have g4 : decide (0 < L[at0 + i]) = true := g4
              have g4 := of_decide_eq_true g4
              refine VRet.mk [0, 1] (.tup [.raw (.int .u64 ((n + k % 128 * 2 ^ (7 * i) : Nat) : Int)), bv true]) [.cells (rrh _ L.length c ((at0 : Int) + i + 1) bad) T_rostrumref1_Reader, .heap hp] ⟨rfl, rfl, rfl⟩ ⟨_, _, _, rfl, rfl, .inr ⟨rfl, _, at0 + i + 1, rfl, hub, by omega, by omega, ?_⟩⟩
              rw [hlast, if_neg (by omega)]
          · have g3 : ¬ L[at0 + i] < 128 := of_decide_eq_false g3
            have hw : IntKind.i64.wrap ((i : Int) + 1) = ((i + 1 : Nat) : Int) := wrap64 (by omega)
            refine Exists.intro _ (And.intro hw ?_)
            refine Exists.intro ⟨i + 1, ((n + k % 128 * 2 ^ (7 * i) : Nat) : Int)⟩ (Exists.intro [0, 1] (And.intro ⟨⟨by simp only; omega, .inl ⟨by simp only; omega, _, rfl, ?_, ?_⟩⟩, by simp only; omega⟩ ⟨rfl, rfl, rfl⟩))
            · have h128 : k % 128 + 1 ≤ 128 := by omega
              have := Nat.mul_le_mul_right (2 ^ (7 * i)) h128
              simp only
              rw [show 7 * (i + 1) = 7 * i + 7 by omega, Nat.pow_add]
              rw [Nat.add_mul, Nat.one_mul] at this
              omega
            · simp only
              rw [hr0, rd, if_neg (by omega), if_pos (by omega)]
              have : L[at0 + i].toNat = k := by omega
              rw [this]; rfl
      · have g2 : ¬ (i : Int) = 9 := of_decide_eq_false g2
        have hfit : k % 128 * 2 ^ (7 * i) < 18446744073709551616 := fitOK hi9 (by omega) (by omega)
        have hub := orBound hi9 hnn hfit
        have e1 : intBits .and .u8 L[at0 + i] 127 = ((k % 128 : Nat) : Int) := by rw [hk]; exact and127 hk256
        refine Exists.intro _ (And.intro e1 ?_)
        clear e1
        refine Exists.intro _ (And.intro (w64u (n := ((k % 128 : Nat) : Int)) (by omega)) ?_)
        have e3 : IntKind.i64.wrap (7 * (i : Int)) = ((7 * i : Nat) : Int) := by rw [wrap64 (by omega)]; omega
        refine Exists.intro _ (And.intro e3 ?_)
        clear e3
        refine Exists.intro _ (And.intro (w64u (n := ((7 * i : Nat) : Int)) (by omega)) ?_)
        refine And.intro (Int.natCast_nonneg _) (Exists.intro _ (And.intro (shl7 (k % 128) hi9) ?_))
        have hor : intBits .or .u64 u (((k % 128 * 2 ^ (7 * i)) % 18446744073709551616 : Nat) : Int) = ((n + k % 128 * 2 ^ (7 * i) : Nat) : Int) := by rw [hun, Nat.mod_eq_of_lt hfit]; exact orAdd hi9 hnn hfit
        refine Exists.intro _ (And.intro hor ?_)
        clear hor
        refine And.intro (fun g3 => ?_) (fun g3 => ?_)
        · have g3 : L[at0 + i] < 128 := of_decide_eq_true g3
          have hkm : k % 128 = k := by omega
          refine Exists.intro _ (And.intro (wrap64 (n := (at0 : Int) + (i : Int)) (by omega)) ?_)
          refine Exists.intro _ (And.intro (wrap64 (n := (at0 : Int) + (i : Int) + 1) (by omega)) ?_)
          have hlast : rd (L.drop at0) 0 0 = if (0 < i ∧ L[at0 + i] = 0) ∨ (i = 9 ∧ 1 < L[at0 + i]) then none else some (n + k % 128 * 2 ^ (7 * i), L.drop (at0 + i + 1)) := by
            rw [hr0, rd, if_neg (by omega), if_neg (by omega), hkm]
            have : L[at0 + i].toNat = k := by omega
            rw [this]
          refine And.intro (fun g4 => ?_) (fun g4 => ?_)
          · have g4 : ¬ 0 < L[at0 + i] := of_decide_eq_false g4
            refine VRet.mk [0, 1] (.tup [.raw (.int .u64 ((n + k % 128 * 2 ^ (7 * i) : Nat) : Int)), bv (decide ((i : Int) = 0))]) [.cells (rrh _ L.length c ((at0 : Int) + i + 1) bad) T_rostrumref1_Reader, .heap hp] ⟨rfl, rfl, rfl⟩ ⟨_, _, _, rfl, rfl, ?_⟩
            by_cases h0 : i = 0
            · right
              refine ⟨by simp [h0], _, at0 + i + 1, rfl, hub, by omega, by omega, ?_⟩
              rw [hlast, if_neg (by omega)]
            · left
              refine ⟨by simp; omega, ?_, _, rfl, hub⟩
              rw [hlast, if_pos (by left; omega)]
          · have g4 : decide (0 < L[at0 + i]) = true := g4
            have g4 := of_decide_eq_true g4
            refine VRet.mk [0, 1] (.tup [.raw (.int .u64 ((n + k % 128 * 2 ^ (7 * i) : Nat) : Int)), bv true]) [.cells (rrh _ L.length c ((at0 : Int) + i + 1) bad) T_rostrumref1_Reader, .heap hp] ⟨rfl, rfl, rfl⟩ ⟨_, _, _, rfl, rfl, .inr ⟨rfl, _, at0 + i + 1, rfl, hub, by omega, by omega, ?_⟩⟩
            rw [hlast, if_neg (by omega)]
        · have g3 : ¬ L[at0 + i] < 128 := of_decide_eq_false g3
          have hw : IntKind.i64.wrap ((i : Int) + 1) = ((i + 1 : Nat) : Int) := wrap64 (by omega)
          refine Exists.intro _ (And.intro hw ?_)
          refine Exists.intro ⟨i + 1, ((n + k % 128 * 2 ^ (7 * i) : Nat) : Int)⟩ (Exists.intro [0, 1] (And.intro ⟨⟨by simp only; omega, .inl ⟨by simp only; omega, _, rfl, ?_, ?_⟩⟩, by simp only; omega⟩ ⟨rfl, rfl, rfl⟩))
          · have h128 : k % 128 + 1 ≤ 128 := by omega
            have := Nat.mul_le_mul_right (2 ^ (7 * i)) h128
            simp only
            rw [show 7 * (i + 1) = 7 * i + 7 by omega, Nat.pow_add]
            rw [Nat.add_mul, Nat.one_mul] at this
            omega
          · simp only
            rw [hr0, rd, if_neg (by omega), if_pos (by omega)]
            have : L[at0 + i].toNat = k := by omega
            rw [this]; rfl
    · have g1 : ¬ (at0 : Int) + (i : Int) < (L.length : Int) := of_decide_eq_false g1
      refine VRet.mk [0, 1] (.tup [.raw (.int .u64 0), bv false]) [.cells (rrh _ L.length c at0 bad) T_rostrumref1_Reader, .heap hp] ⟨rfl, rfl, rfl⟩ ⟨0, false, at0, rfl, rfl, .inl ⟨rfl, ?_, 0, rfl, by omega⟩⟩
      rw [hr0, List.drop_eq_nil_of_le (by omega), rd_end]
  · have h : ¬ (i : Int) < 10 := of_decide_eq_false h
    refine VRet.mk [0, 1] (.tup [.raw (.int .u64 0), bv false]) [.cells (rrh _ L.length c at0 bad) T_rostrumref1_Reader, .heap hp] ⟨rfl, rfl, rfl⟩ ⟨0, false, at0, rfl, rfl, .inl ⟨rfl, ?_, 0, rfl, by omega⟩⟩
    rcases hinv with ⟨h9, _⟩ | ⟨_, h⟩
    · omega
    · exact h
end Go.Proofs

namespace Go.Proofs
open Go Go.V Go.Lib
set_option maxRecDepth 100000
set_option linter.unusedVariables false

set_option maxHeartbeats 4000000 in
theorem s_rNum (hp : Nat → Option Obj) (L : List Int) (least most : Int) (a : Option Addr) (c at0 : Nat) (hv : RowsIs u8c 1 hp (.slice a L.length c) L) (hby : ∀ b ∈ L, 0 ≤ b ∧ b < 256) (hat : at0 ≤ L.length) (hlen : L.length ≤ 1000000) :
    Ctr Tryz.prog F_rostrumref1_Reader_Num [.ptr 0 0, iv least, iv most] [.cells (rrh a L.length c at0 false) T_rostrumref1_Reader, .heap hp]
    (fun x H => (∃ (v : Int) (k : Nat), rdN (L.drop at0) least most = some (v, L.drop k) ∧ k ≤ L.length ∧ x = iv v ∧ H = [.cells (rrh a L.length c k false) T_rostrumref1_Reader, .heap hp]) ∨
      (rdN (L.drop at0) least most = none ∧ x = iv 0 ∧ ∃ at1, H = [.cells (rrh a L.length c at1 true) T_rostrumref1_Reader, .heap hp])) := by
  refine i_rostrumref1_Reader_Num.spec follows ?_
  refine And.intro (fun h => Bool.noConfusion h) (fun _ => ?_)
  refine VCall.mk [0, 1] (s_raw hp L a c at0 false hv hby hat hlen) ⟨rfl, rfl, rfl⟩ ?_
  rintro _ _ ⟨u, ok, at1, rfl, rfl, (⟨rfl, hr, n, rfl, hn⟩ | ⟨rfl, n, k, rfl, hn, rfl, hk, hr⟩)⟩
  · refine And.intro (by omega) (Exists.intro _ (And.intro (shr1 n) ?_))
    refine Exists.intro _ (And.intro (wrap64 (n := ((n / 2 : Nat) : Int)) (by omega)) ?_)
    refine Exists.intro _ (And.intro (Go.V.and1 hn) ?_)
    refine And.intro (fun p1 => ?_) (fun p1 => ?_)
    · have p1 : ((n % 2 : Nat) : Int) = 1 := of_decide_eq_true p1
      have hz : IntKind.i64.wrap (-1 - ((n / 2 : Nat) : Int)) = zig n := by
        rw [wrap64 (by omega), zig, if_pos (by omega)]
      refine Exists.intro _ (And.intro hz ?_)
      clear hz
      refine And.intro (fun h => Bool.noConfusion h) (fun _ => ?_)
      exact VRet.mk [0, 1] (iv 0) [.cells (rrh a L.length c at1 true) T_rostrumref1_Reader, .heap hp] ⟨rfl, rfl, rfl⟩ (.inr ⟨by simp only [rdN, hr], rfl, _, rfl⟩)
    · have p1 : ¬ ((n % 2 : Nat) : Int) = 1 := of_decide_eq_false p1
      have hz : ((n / 2 : Nat) : Int) = zig n := by
        rw [zig, if_neg (by omega)]
      refine And.intro (fun h => Bool.noConfusion h) (fun _ => ?_)
      exact VRet.mk [0, 1] (iv 0) [.cells (rrh a L.length c at1 true) T_rostrumref1_Reader, .heap hp] ⟨rfl, rfl, rfl⟩ (.inr ⟨by simp only [rdN, hr], rfl, _, rfl⟩)
  · refine And.intro (by omega) (Exists.intro _ (And.intro (shr1 n) ?_))
    refine Exists.intro _ (And.intro (wrap64 (n := ((n / 2 : Nat) : Int)) (by omega)) ?_)
    refine Exists.intro _ (And.intro (Go.V.and1 hn) ?_)
    refine And.intro (fun p1 => ?_) (fun p1 => ?_)
    · have p1 : ((n % 2 : Nat) : Int) = 1 := of_decide_eq_true p1
      have hz : IntKind.i64.wrap (-1 - ((n / 2 : Nat) : Int)) = zig n := by
        rw [wrap64 (by omega), zig, if_pos (by omega)]
      refine Exists.intro _ (And.intro hz ?_)
      clear hz
      refine And.intro (fun _ => ?_) (fun h => Bool.noConfusion h)
      refine And.intro (fun q1 => ?_) (fun q1 => ?_)
      · have q1 := of_decide_eq_false q1
        refine And.intro (fun q2 => ?_) (fun q2 => ?_)
        · have q2 := of_decide_eq_true q2
          exact VRet.mk [0, 1] (iv 0) [.cells (rrh a L.length c (k : Int) true) T_rostrumref1_Reader, .heap hp] ⟨rfl, rfl, rfl⟩ (.inr ⟨by simp only [rdN, hr]; rw [if_pos (.inr q2)], rfl, _, rfl⟩)
        · have q2 := of_decide_eq_false q2
          refine VRet.mk [0, 1] (iv (zig n)) [.cells (rrh a L.length c k false) T_rostrumref1_Reader, .heap hp] ⟨rfl, rfl, rfl⟩ (.inl ⟨_, k, ?_, hk, rfl, rfl⟩)
          simp only [rdN, hr]
          rw [if_neg (fun h => h.elim q1 q2)]
      · have q1 : decide ((zig n) < least) = true := q1
        have q1 := of_decide_eq_true q1
        exact VRet.mk [0, 1] (iv 0) [.cells (rrh a L.length c (k : Int) true) T_rostrumref1_Reader, .heap hp] ⟨rfl, rfl, rfl⟩ (.inr ⟨by simp only [rdN, hr]; rw [if_pos (.inl q1)], rfl, _, rfl⟩)
    · have p1 : ¬ ((n % 2 : Nat) : Int) = 1 := of_decide_eq_false p1
      have hz : ((n / 2 : Nat) : Int) = zig n := by
        rw [zig, if_neg (by omega)]
      refine And.intro (fun _ => ?_) (fun h => Bool.noConfusion h)
      refine And.intro (fun q1 => ?_) (fun q1 => ?_)
      · have q1 := of_decide_eq_false q1
        rw [hz] at q1
        refine And.intro (fun q2 => ?_) (fun q2 => ?_)
        · have q2 := of_decide_eq_true q2
          rw [hz] at q2
          exact VRet.mk [0, 1] (iv 0) [.cells (rrh a L.length c (k : Int) true) T_rostrumref1_Reader, .heap hp] ⟨rfl, rfl, rfl⟩ (.inr ⟨by simp only [rdN, hr]; rw [if_pos (.inr q2)], rfl, _, rfl⟩)
        · have q2 := of_decide_eq_false q2
          rw [hz] at q2
          refine VRet.mk [0, 1] (iv ((n / 2 : Nat) : Int)) [.cells (rrh a L.length c k false) T_rostrumref1_Reader, .heap hp] ⟨rfl, rfl, rfl⟩ (.inl ⟨_, k, ?_, hk, rfl, rfl⟩)
          simp only [rdN, hr]
          rw [if_neg (fun h => h.elim q1 q2), hz]
      · have q1 : decide (((n / 2 : Nat) : Int) < least) = true := q1
        have q1 := of_decide_eq_true q1
        rw [hz] at q1
        exact VRet.mk [0, 1] (iv 0) [.cells (rrh a L.length c (k : Int) true) T_rostrumref1_Reader, .heap hp] ⟨rfl, rfl, rfl⟩ (.inr ⟨by simp only [rdN, hr]; rw [if_pos (.inl q1)], rfl, _, rfl⟩)
end Go.Proofs

namespace Go.Proofs
open Go Go.V Go.Lib
set_option maxRecDepth 100000
set_option linter.unusedVariables false

theorem s_rNumBad (hp : Nat → Option Obj) (a : Option Addr) (n c : Nat) (at0 least most : Int) :
    Ctr Tryz.prog F_rostrumref1_Reader_Num [.ptr 0 0, iv least, iv most] [.cells (rrh a n c at0 true) T_rostrumref1_Reader, .heap hp]
    (fun x H => x = iv 0 ∧ H = [.cells (rrh a n c at0 true) T_rostrumref1_Reader, .heap hp]) := by
  refine i_rostrumref1_Reader_Num.spec follows ?_
  refine And.intro (fun _ => ?_) (fun h => Bool.noConfusion h)
  exact VRet.mk [0, 1] (iv 0) [.cells (rrh a n c at0 true) T_rostrumref1_Reader, .heap hp] ⟨rfl, rfl, rfl⟩ ⟨rfl, rfl⟩

structure VGXh where
  i : Nat
  v : Nat → Int
  st : Nat ⊕ Int
theorem s_ref_GetVec (hp : Nat → Option Obj) (L : List Int) (a : Option Addr) (c at0 : Nat) (hv : RowsIs u8c 1 hp (.slice a L.length c) L) (hby : ∀ b ∈ L, 0 ≤ b ∧ b < 256) (hat : at0 ≤ L.length) (hlen : L.length ≤ 1000000) :
    Ctr Tryz.prog F_rostrumref7_GetVec [.ptr 0 0] [.cells (rrh a L.length c at0 false) T_rostrumref1_Reader, .heap hp]
    (fun x H => (∃ v k, rdVs 7 (L.drop at0) = some (v, L.drop k) ∧ k ≤ L.length ∧ x = .agg (vcells v) ∧ H = [.cells (rrh a L.length c (k : Nat) false) T_rostrumref1_Reader, .heap hp]) ∨
      (rdVs 7 (L.drop at0) = none ∧ x = .agg (vcells fun _ => 0) ∧ ∃ at1, H = [.cells (rrh a L.length c at1 true) T_rostrumref1_Reader, .heap hp])) := by
  refine i_rostrumref7_GetVec.spec follows ?_
  refine VLoop.mk VGXh (fun x => [(0, .ptr 0 0), (2, .ptr 2 0), (3, .ptr 3 0), (4, iv x.i)])
    (fun x => match x.st with
      | .inl k => [.cells (rrh a L.length c (k : Nat) false) T_rostrumref1_Reader, .heap hp, .cells (vcells fun _ => 0) T_rostrumref7_Vec, .cells (vcells x.v) T_rostrumref7_Vec]
      | .inr z => [.cells (rrh a L.length c z true) T_rostrumref1_Reader, .heap hp, .cells (vcells fun _ => 0) T_rostrumref7_Vec, .cells (vcells x.v) T_rostrumref7_Vec])
    (fun x => x.i ≤ 7 ∧ match x.st with
      | .inl k => rdVs x.i (L.drop at0) = some (x.v, L.drop k) ∧ k ≤ L.length
      | .inr _ => rdVs x.i (L.drop at0) = none) (fun x => 7 - x.i) ⟨0, fun _ => 0, .inl at0⟩ [0, 1, 2, 3] ⟨⟨Nat.zero_le _, rfl, hat⟩, rfl, rfl, rfl⟩ ?_
  rintro ⟨i, v, k | z⟩ ⟨hi, hinv⟩ g
  · have hi : i ≤ 7 := hi
    obtain ⟨hr, hk⟩ : rdVs i (L.drop at0) = some (v, L.drop k) ∧ k ≤ L.length := hinv
    refine And.intro (fun h => ?_) (fun h => ?_)
    · have h := of_decide_eq_true h
      have hi7 : 0 ≤ (i : Int) ∧ (i : Int) < 7 := ⟨by omega, h⟩
      have hw : IntKind.i64.wrap ((i : Int) + 1) = ((i + 1 : Nat) : Int) := wrap64 (by omega)
      refine VCall.mk [0, 1] (s_rNum hp L 0 1099511627776 a c k hv hby hk hlen) ⟨rfl, rfl, rfl⟩ ?_
      rintro _ _ (⟨x, k2, hrN, hk2, rfl, rfl⟩ | ⟨hrN, rfl, a2, rfl⟩)
      · have hn : rdVs (i + 1) (L.drop at0) = some (upv v i x, L.drop k2) := by rw [rdVs, hr]; simp only [hrN]
        refine And.intro hi7 (Exists.intro _ (And.intro (vcells_put v x hi7 []) ?_))
        refine Exists.intro _ (And.intro hw ?_)
        exact Exists.intro ⟨i + 1, upv v (i : Int).toNat x, .inl k2⟩ (Exists.intro [0, 1, 2, 3] (And.intro ⟨⟨by simp only at h ⊢; omega, hn, hk2⟩, by simp only at h ⊢; omega⟩ ⟨rfl, rfl, rfl⟩))
      · have hn : rdVs (i + 1) (L.drop at0) = none := by rw [rdVs, hr]; simp only [hrN]
        refine And.intro hi7 (Exists.intro _ (And.intro (vcells_put v 0 hi7 []) ?_))
        refine Exists.intro _ (And.intro hw ?_)
        exact Exists.intro ⟨i + 1, upv v (i : Int).toNat 0, .inr a2⟩ (Exists.intro [0, 1, 2, 3] (And.intro ⟨⟨by simp only at h ⊢; omega, hn⟩, by simp only at h ⊢; omega⟩ ⟨rfl, rfl, rfl⟩))
    · have h := of_decide_eq_false h
      have h7 : i = 7 := by simp only at h; omega
      subst h7
      refine And.intro (fun h => absurd h (by decide)) (fun _ => ?_)
      exact VRet.mk [0, 1] (.agg (vcells v)) [.cells (rrh a L.length c (k : Nat) false) T_rostrumref1_Reader, .heap hp] ⟨rfl, rfl, rfl⟩ (.inl ⟨v, k, hr, hk, rfl, rfl⟩)
  · have hi : i ≤ 7 := hi
    have hinv : rdVs i (L.drop at0) = none := hinv
    refine And.intro (fun h => ?_) (fun h => ?_)
    · have h := of_decide_eq_true h
      have hi7 : 0 ≤ (i : Int) ∧ (i : Int) < 7 := ⟨by omega, h⟩
      have hw : IntKind.i64.wrap ((i : Int) + 1) = ((i + 1 : Nat) : Int) := wrap64 (by omega)
      have hn : rdVs (i + 1) (L.drop at0) = none := by rw [rdVs, hinv]
      refine VCall.mk [0, 1] (s_rNumBad hp a L.length c z 0 1099511627776) ⟨rfl, rfl, rfl⟩ ?_
      rintro _ _ ⟨rfl, rfl⟩
      refine And.intro hi7 (Exists.intro _ (And.intro (vcells_put v 0 hi7 []) ?_))
      refine Exists.intro _ (And.intro hw ?_)
      exact Exists.intro ⟨i + 1, upv v (i : Int).toNat 0, .inr z⟩ (Exists.intro [0, 1, 2, 3] (And.intro ⟨⟨by simp only at h ⊢; omega, hn⟩, by simp only at h ⊢; omega⟩ ⟨rfl, rfl, rfl⟩))
    · have h := of_decide_eq_false h
      have h7 : i = 7 := by simp only at h; omega
      subst h7
      refine And.intro (fun _ => ?_) (fun h => absurd h (by decide))
      exact VRet.mk [0, 1] (.agg (vcells fun _ => 0)) [.cells (rrh a L.length c z true) T_rostrumref1_Reader, .heap hp] ⟨rfl, rfl, rfl⟩ (.inr ⟨hinv, rfl, z, rfl⟩)
end Go.Proofs

namespace Go.Proofs
open Go Go.V Go.Lib
set_option maxRecDepth 100000
set_option linter.unusedVariables false

theorem strL_strOf {m : List Int} (h : ∀ b ∈ m, 0 ≤ b ∧ b < 256) : strL (strOf m) = m := by
  unfold strL strOf
  simp only [List.map_map]
  apply List.ext_getElem?
  intro i
  rw [List.getElem?_map]
  cases hq : m[i]? with
  | none => simp [hq]
  | some b =>
    have hb := h b (List.mem_of_getElem? hq)
    simp only [Option.map_some, Function.comp]
    congr 1
    have h1 : b.toNat < 256 := by omega
    have h2 : (UInt8.ofNat b.toNat).toNat = b.toNat := by simp [UInt8.toNat_ofNat]; omega
    rw [h2]; omega
theorem s_rBytes (hp : Nat → Option Obj) (L : List Int) (lim : Int) (a : Option Addr) (c at0 : Nat) (hv : RowsIs u8c 1 hp (.slice a L.length c) L) (hlc : L.length ≤ c) (hby : ∀ b ∈ L, 0 ≤ b ∧ b < 256) (hat : at0 ≤ L.length) (hlen : L.length ≤ 1000000) :
    Ctr Tryz.prog F_rostrumref1_Reader_Bytes [.ptr 0 0, iv lim] [.cells (rrh a L.length c at0 false) T_rostrumref1_Reader, .heap hp]
    (fun x H => (∃ (s : ByteArray) (k : Nat), rdText (L.drop at0) lim = some (s, L.drop k) ∧ k ≤ L.length ∧ ∃ o' c' ys, x = .sl 2 o' s.size c' ∧ H = [.cells (rrh a L.length c k false) T_rostrumref1_Reader, .heap hp, .arr ys T_uint8] ∧ Brow ys o' c' (strL s)) ∨
      (rdText (L.drop at0) lim = none ∧ x = .sl 2 0 0 0 ∧ ∃ at1, H = [.cells (rrh a L.length c at1 true) T_rostrumref1_Reader, .heap hp, .arr [] T_uint8])) := by
  obtain ⟨b1, o, xs, te, fr1, p1⟩ := hv.pos
  refine i_rostrumref1_Reader_Bytes.spec follows ?_
  refine VCall.mk [0, 1] (s_rNum hp L 0 lim a c at0 hv hby hat hlen) ⟨rfl, rfl, rfl⟩ ?_
  rintro _ _ (⟨v, k, hr, hk, rfl, rfl⟩ | ⟨hr, rfl, at1, rfl⟩)
  · have hrg := rdN_range hr
    obtain ⟨n, rfl⟩ : ∃ n : Nat, v = n := ⟨v.toNat, by omega⟩
    refine And.intro (fun _ => ?_) (fun k => Bool.noConfusion k)
    refine Exists.intro _ (And.intro (wrap64 (n := (L.length : Int) - (k : Int)) (by omega)) ?_)
    refine And.intro (fun t => ?_) (fun t => ?_)
    · have t : (L.length : Int) - (k : Int) < (n : Int) := of_decide_eq_true t
      refine VRet.nil T_uint8 [0] [] ⟨rfl, rfl⟩ (VRet.mk [0, 1, 2] (.sl 2 0 0 0) [.cells (rrh a L.length c k true) T_rostrumref1_Reader, .heap hp, .arr [] T_uint8] ⟨rfl, rfl, rfl⟩ (.inr ⟨?_, rfl, k, rfl⟩))
      unfold rdText; rw [hr]; simp only; rw [if_pos (by rw [List.length_drop]; omega)]
    · have t : ¬ (L.length : Int) - (k : Int) < (n : Int) := of_decide_eq_false t
      have h0 : 0 < L.length := by
        rcases Nat.eq_zero_or_pos L.length with h | h
        · have : L = [] := List.eq_nil_of_length_eq_zero h
          subst this
          simp [rdN, rd] at hr
        · exact h
      have q1 := p1 h0
      obtain ⟨rfl, hh1, hcut1⟩ := q1
      refine Exists.intro _ (And.intro (wrap64 (n := (k : Int) + (n : Int)) (by omega)) ?_)
      refine And.intro ⟨by omega, by omega, by omega⟩ ?_
      refine Exists.elim (⟨_, rfl⟩ : ∃ o3, o3 = if c = (k : Int).toNat then o else o + (k : Int).toNat * 1) fun o3 ho3 => ?_
      refine Exists.intro o3 (And.intro ho3 ?_)
      repeat refine And.intro rfl ?_
      have hm : ((L.drop k).take n).map (Value.int .u8) = (xs.drop o3).take n := by
        by_cases hn : n = 0
        · subst hn; simp
        · have hck : ¬ c = (k : Int).toNat := by omega
          rw [if_neg hck] at ho3
          rw [ho3, List.map_take, List.map_drop, rows_take hcut1, List.drop_take, List.drop_drop, List.take_take, Nat.min_eq_left (by omega)]
          congr 2; omega
      refine Exists.intro (((L.drop k).take n).map (Value.int .u8)) (And.intro (.inr ⟨1, b1, o3, xs, te, fr1, rfl, hh1, ?_⟩) ?_)
      · rw [hm]; congr 1; omega
      have hln : ((L.drop k).take n).length = n := by rw [List.length_take, List.length_drop]; omega
      have hE : ((k : Int) + (n : Int)).toNat - (k : Int).toNat = n := by omega
      have hbt : ∀ b ∈ (L.drop k).take n, 0 ≤ b ∧ b < 256 := fun b hb => hby b (List.mem_of_mem_drop (List.mem_of_mem_take hb))
      refine And.intro ⟨⟨Nat.zero_le _, by simp, rfl⟩, ⟨by rw [List.length_map, hln, hE, Nat.mul_one], cellsOK_ints _⟩, by omega⟩ ?_
      intro zs' o' c' hz
      refine Exists.intro _ (And.intro (wrap64 (n := (k : Int) + (n : Int)) (by omega)) ?_)
      have hz2 := hz.2.2
      have hz1 := hz.1
      have hz3 := hz.2.1
      rw [hE] at hz1 hz2
      have hkn : ((k : Int) + (n : Int)) = ((k + n : Nat) : Int) := by omega
      refine VRet.mk [0, 1, 3] (.sl 2 o' (0 + (((k : Int) + (n : Int)).toNat - (k : Int).toNat)) c') [.cells (rrh (some ⟨b1, o, none⟩) L.length c ((k : Int) + (n : Int)) false) T_rostrumref1_Reader, .heap hp, .arr zs' T_uint8] ⟨rfl, rfl, rfl⟩ (.inl ⟨strOf ((L.drop k).take n), k + n, ?_, by omega, o', c', zs', ?_, ?_, ?_⟩)
      · unfold rdText; rw [hr]; simp only; rw [if_neg (by rw [List.length_drop]; omega), Int.toNat_natCast, List.drop_drop]
      · rw [hE, strOf_size, hln, Nat.zero_add]
      · rw [hkn]
      · rw [strL_strOf hbt]
        refine ⟨by rw [hln]; omega, by omega, ?_⟩
        rw [hln]
        simpa using hz2
  · refine And.intro (fun k => Bool.noConfusion k) (fun _ => ?_)
    refine VRet.nil T_uint8 [0] [] ⟨rfl, rfl⟩ (VRet.mk [0, 1, 2] (.sl 2 0 0 0) [.cells (rrh a L.length c at1 true) T_rostrumref1_Reader, .heap hp, .arr [] T_uint8] ⟨rfl, rfl, rfl⟩ (.inr ⟨?_, rfl, at1, rfl⟩))
    unfold rdText; rw [hr]
end Go.Proofs

namespace Go.Proofs
open Go Go.V Go.Lib
set_option maxRecDepth 100000
set_option linter.unusedVariables false

theorem s_ref_GetVecBad (hp : Nat → Option Obj) (a : Option Addr) (n c : Nat) (z : Int) :
    Ctr Tryz.prog F_rostrumref7_GetVec [.ptr 0 0] [.cells (rrh a n c z true) T_rostrumref1_Reader, .heap hp]
    (fun x H => x = .agg (vcells fun _ => 0) ∧ H = [.cells (rrh a n c z true) T_rostrumref1_Reader, .heap hp]) := by
  refine i_rostrumref7_GetVec.spec follows ?_
  refine VLoop.mk VFX (fun x => [(0, .ptr 0 0), (2, .ptr 2 0), (3, .ptr 3 0), (4, iv x.i)])
    (fun x => [.cells (rrh a n c z true) T_rostrumref1_Reader, .heap hp, .cells (vcells fun _ => 0) T_rostrumref7_Vec, .cells (vcells x.v) T_rostrumref7_Vec])
    (fun x => x.i ≤ 7) (fun x => 7 - x.i) ⟨0, fun _ => 0⟩ [0, 1, 2, 3] ⟨Nat.zero_le _, rfl, rfl, rfl⟩ ?_
  rintro ⟨i, v⟩ hi g
  have hi : i ≤ 7 := hi
  refine And.intro (fun h => ?_) (fun h => ?_)
  · have h := of_decide_eq_true h
    have hi7 : 0 ≤ (i : Int) ∧ (i : Int) < 7 := ⟨by omega, h⟩
    have hw : IntKind.i64.wrap ((i : Int) + 1) = ((i + 1 : Nat) : Int) := wrap64 (by omega)
    refine VCall.mk [0, 1] (s_rNumBad hp a n c z 0 1099511627776) ⟨rfl, rfl, rfl⟩ ?_
    rintro _ _ ⟨rfl, rfl⟩
    refine And.intro hi7 (Exists.intro _ (And.intro (vcells_put v 0 hi7 []) ?_))
    refine Exists.intro _ (And.intro hw ?_)
    exact Exists.intro ⟨i + 1, upv v (i : Int).toNat 0⟩ (Exists.intro [0, 1, 2, 3] (And.intro ⟨by have := hi7.2; simp only; omega, by have := hi7.2; simp only; omega⟩ ⟨rfl, rfl, rfl⟩))
  · refine And.intro (fun _ => ?_) (fun h => Bool.noConfusion h)
    exact VRet.mk [0, 1] (.agg (vcells fun _ => 0)) [.cells (rrh a n c z true) T_rostrumref1_Reader, .heap hp] ⟨rfl, rfl, rfl⟩ ⟨rfl, rfl⟩
theorem s_rBytesBad (hp : Nat → Option Obj) (a : Option Addr) (n c : Nat) (z lim : Int) :
    Ctr Tryz.prog F_rostrumref1_Reader_Bytes [.ptr 0 0, iv lim] [.cells (rrh a n c z true) T_rostrumref1_Reader, .heap hp]
    (fun x H => x = .sl 2 0 0 0 ∧ H = [.cells (rrh a n c z true) T_rostrumref1_Reader, .heap hp, .arr [] T_uint8]) := by
  refine i_rostrumref1_Reader_Bytes.spec follows ?_
  refine VCall.mk [0, 1] (s_rNumBad hp a n c z 0 lim) ⟨rfl, rfl, rfl⟩ ?_
  rintro _ _ ⟨rfl, rfl⟩
  refine And.intro (fun k => Bool.noConfusion k) (fun _ => ?_)
  exact VRet.nil T_uint8 [0] [] ⟨rfl, rfl⟩ (VRet.mk [0, 1, 2] (.sl 2 0 0 0) [.cells (rrh a n c z true) T_rostrumref1_Reader, .heap hp, .arr [] T_uint8] ⟨rfl, rfl, rfl⟩ ⟨rfl, rfl⟩)
def rfSt (l : List Int) : Option ST := (rdN l 1 7).bind fun p1 => (rdN p1.2 0 6).bind fun p2 => (rdN p2.2 1 1099511627776).bind fun p3 => (rdVs 7 p3.2).bind fun p4 => (rdN p4.2 0 1000).bind fun p5 => (rdText p5.2 200).bind fun p6 => (rdText p6.2 200).bind fun p7 => (rdN p7.2 0 6).bind fun p8 => (rdN p8.2 0 1099511627776).bind fun p9 => (rdN p9.2 0 6).bind fun p10 => (rdN p10.2 0 1099511627776).bind fun p11 => (rdN p11.2 0 1000000000).bind fun p12 => (rdN p12.2 0 1125899906842624).bind fun p13 =>
  if p13.2.length = 0 ∧ goodT (getRow p1.1 (p2.1, p3.1) p4.1 p5.1 p6.1 p7.1 (p8.1, p9.1) (p10.1, p11.1) p12.1 p13.1) = true then some (getRow p1.1 (p2.1, p3.1) p4.1 p5.1 p6.1 p7.1 (p8.1, p9.1) (p10.1, p11.1) p12.1 p13.1) else none
def rfV (o : Option ST) : SV := .tup [.agg (stcells (o.getD zeroT')), bv o.isSome]
theorem s_ref_EndB (hp : Nat → Option Obj) (a : Option Addr) (n c : Nat) (z : Int) : Ctr Tryz.prog F_rostrumref1_Reader_End [.ptr 0 0] [.cells (rrh a n c z true) T_rostrumref1_Reader, .heap hp]
    (fun x H => x = bv false ∧ H = [.cells (rrh a n c z true) T_rostrumref1_Reader, .heap hp]) := by
  refine i_rostrumref1_Reader_End.spec follows ?_
  refine And.intro (fun h => Bool.noConfusion h) (fun _ => ?_)
  exact VRet.mk [0, 1] (bv false) [.cells (rrh a n c z true) T_rostrumref1_Reader, .heap hp] ⟨rfl, rfl, rfl⟩ ⟨rfl, rfl⟩
theorem b2sOf {ys : List Value} {o c : Nat} {s : ByteArray} (h : Brow ys o c (strL s)) : (some ((ys.drop o).take (s.size * 1), s.size) : Option (List Value × Nat)) = some (s.data.toList.map (fun b => Value.int .u8 b.toNat), s.size) := by
  have h3 := h.2.2
  rw [strL_len] at h3
  rw [Nat.mul_one, h3, strL, List.map_map]; rfl
set_option maxHeartbeats 4000000 in
theorem s_refGet (hp : Nat → Option Obj) (hu : Uni hp) (L : List Int) (a : Option Addr) (c : Nat) (hv : RowsIs u8c 1 hp (.slice a L.length c) L) (hlc : L.length ≤ c) (hby : ∀ b ∈ L, 0 ≤ b ∧ b < 256) (hlen : L.length ≤ 1000000) :
    Ctr Tryz.prog F_rostrumref24_Get [.raw (.slice a L.length c)] [.heap hp] (fun r H => r = rfV (rfSt L) ∧ H = [.heap hp]) := by
  have fin : ∀ (k : List SO), rfSt L = none → VRet 1 (.tup [.agg (stcells zeroT'), bv false]) ([.heap hp] ++ k) (fun r H => r = rfV (rfSt L) ∧ H = [.heap hp]) := by
    intro k e
    exact VRet.mk [0] (.tup [.agg (stcells zeroT'), bv false]) [.heap hp] ⟨rfl, rfl, rfl⟩ ⟨by rw [e]; rfl, rfl⟩
  have hd0 : L.drop 0 = L := rfl
  refine i_rostrumref24_Get.spec follows ?_
  refine VCall.mk [2, 0] (s_rNum hp L 1 7 a c 0 hv hby (Nat.zero_le _) hlen) ⟨rfl, rfl, rfl⟩ ?_
  rintro _ _ (⟨v1, k1, h1, hk1, rfl, rfl⟩ | ⟨h1, rfl, z1, rfl⟩)
  rotate_left 1
  · have h1 : rdN L 1 7 = none := h1
    refine VCall.mk [2, 0] (s_rNumBad hp a L.length c z1 0 6) ⟨rfl, rfl, rfl⟩ ?_
    rintro _ _ ⟨rfl, rfl⟩
    refine VCall.mk [2, 0] (s_rNumBad hp a L.length c z1 1 1099511627776) ⟨rfl, rfl, rfl⟩ ?_
    rintro _ _ ⟨rfl, rfl⟩
    refine VCall.mk [2, 0] (s_ref_GetVecBad hp a L.length c z1) ⟨rfl, rfl, rfl⟩ ?_
    rintro _ _ ⟨rfl, rfl⟩
    refine VCall.mk [2, 0] (s_rNumBad hp a L.length c z1 0 1000) ⟨rfl, rfl, rfl⟩ ?_
    rintro _ _ ⟨rfl, rfl⟩
    refine VCall.mk [2, 0] (s_rBytesBad hp a L.length c z1 200) ⟨rfl, rfl, rfl⟩ ?_
    rintro _ _ ⟨rfl, rfl⟩
    refine Exists.intro es (And.intro rfl ?_)
    refine VCall.mk [2, 0] (s_rBytesBad hp a L.length c z1 200) ⟨rfl, rfl, rfl⟩ ?_
    rintro _ _ ⟨rfl, rfl⟩
    refine Exists.intro es (And.intro rfl ?_)
    refine VCall.mk [2, 0] (s_rNumBad hp a L.length c z1 0 6) ⟨rfl, rfl, rfl⟩ ?_
    rintro _ _ ⟨rfl, rfl⟩
    refine VCall.mk [2, 0] (s_rNumBad hp a L.length c z1 0 1099511627776) ⟨rfl, rfl, rfl⟩ ?_
    rintro _ _ ⟨rfl, rfl⟩
    refine VCall.mk [2, 0] (s_rNumBad hp a L.length c z1 0 6) ⟨rfl, rfl, rfl⟩ ?_
    rintro _ _ ⟨rfl, rfl⟩
    refine VCall.mk [2, 0] (s_rNumBad hp a L.length c z1 0 1099511627776) ⟨rfl, rfl, rfl⟩ ?_
    rintro _ _ ⟨rfl, rfl⟩
    refine VCall.mk [2, 0] (s_rNumBad hp a L.length c z1 0 1000000000) ⟨rfl, rfl, rfl⟩ ?_
    rintro _ _ ⟨rfl, rfl⟩
    refine VCall.mk [2, 0] (s_rNumBad hp a L.length c z1 0 1125899906842624) ⟨rfl, rfl, rfl⟩ ?_
    rintro _ _ ⟨rfl, rfl⟩
    refine VCall.mk [2, 0] (s_ref_EndB hp a L.length c z1) ⟨rfl, rfl, rfl⟩ ?_
    rintro _ _ ⟨rfl, rfl⟩
    refine And.intro (fun k => absurd k (by decide)) (fun _ => ?_)
    exact fin _ (by simp [rfSt, h1])
  have h1 : rdN L 1 7 = some (v1, L.drop k1) := h1
  refine VCall.mk [2, 0] (s_rNum hp L 0 6 a c k1 hv hby hk1 hlen) ⟨rfl, rfl, rfl⟩ ?_
  rintro _ _ (⟨v2, k2, h2, hk2, rfl, rfl⟩ | ⟨h2, rfl, z2, rfl⟩)
  rotate_left 1
  · refine VCall.mk [2, 0] (s_rNumBad hp a L.length c z2 1 1099511627776) ⟨rfl, rfl, rfl⟩ ?_
    rintro _ _ ⟨rfl, rfl⟩
    refine VCall.mk [2, 0] (s_ref_GetVecBad hp a L.length c z2) ⟨rfl, rfl, rfl⟩ ?_
    rintro _ _ ⟨rfl, rfl⟩
    refine VCall.mk [2, 0] (s_rNumBad hp a L.length c z2 0 1000) ⟨rfl, rfl, rfl⟩ ?_
    rintro _ _ ⟨rfl, rfl⟩
    refine VCall.mk [2, 0] (s_rBytesBad hp a L.length c z2 200) ⟨rfl, rfl, rfl⟩ ?_
    rintro _ _ ⟨rfl, rfl⟩
    refine Exists.intro es (And.intro rfl ?_)
    refine VCall.mk [2, 0] (s_rBytesBad hp a L.length c z2 200) ⟨rfl, rfl, rfl⟩ ?_
    rintro _ _ ⟨rfl, rfl⟩
    refine Exists.intro es (And.intro rfl ?_)
    refine VCall.mk [2, 0] (s_rNumBad hp a L.length c z2 0 6) ⟨rfl, rfl, rfl⟩ ?_
    rintro _ _ ⟨rfl, rfl⟩
    refine VCall.mk [2, 0] (s_rNumBad hp a L.length c z2 0 1099511627776) ⟨rfl, rfl, rfl⟩ ?_
    rintro _ _ ⟨rfl, rfl⟩
    refine VCall.mk [2, 0] (s_rNumBad hp a L.length c z2 0 6) ⟨rfl, rfl, rfl⟩ ?_
    rintro _ _ ⟨rfl, rfl⟩
    refine VCall.mk [2, 0] (s_rNumBad hp a L.length c z2 0 1099511627776) ⟨rfl, rfl, rfl⟩ ?_
    rintro _ _ ⟨rfl, rfl⟩
    refine VCall.mk [2, 0] (s_rNumBad hp a L.length c z2 0 1000000000) ⟨rfl, rfl, rfl⟩ ?_
    rintro _ _ ⟨rfl, rfl⟩
    refine VCall.mk [2, 0] (s_rNumBad hp a L.length c z2 0 1125899906842624) ⟨rfl, rfl, rfl⟩ ?_
    rintro _ _ ⟨rfl, rfl⟩
    refine VCall.mk [2, 0] (s_ref_EndB hp a L.length c z2) ⟨rfl, rfl, rfl⟩ ?_
    rintro _ _ ⟨rfl, rfl⟩
    refine And.intro (fun k => absurd k (by decide)) (fun _ => ?_)
    exact fin _ (by simp [rfSt, h1, h2])
  refine VCall.mk [2, 0] (s_rNum hp L 1 1099511627776 a c k2 hv hby hk2 hlen) ⟨rfl, rfl, rfl⟩ ?_
  rintro _ _ (⟨v3, k3, h3, hk3, rfl, rfl⟩ | ⟨h3, rfl, z3, rfl⟩)
  rotate_left 1
  · refine VCall.mk [2, 0] (s_ref_GetVecBad hp a L.length c z3) ⟨rfl, rfl, rfl⟩ ?_
    rintro _ _ ⟨rfl, rfl⟩
    refine VCall.mk [2, 0] (s_rNumBad hp a L.length c z3 0 1000) ⟨rfl, rfl, rfl⟩ ?_
    rintro _ _ ⟨rfl, rfl⟩
    refine VCall.mk [2, 0] (s_rBytesBad hp a L.length c z3 200) ⟨rfl, rfl, rfl⟩ ?_
    rintro _ _ ⟨rfl, rfl⟩
    refine Exists.intro es (And.intro rfl ?_)
    refine VCall.mk [2, 0] (s_rBytesBad hp a L.length c z3 200) ⟨rfl, rfl, rfl⟩ ?_
    rintro _ _ ⟨rfl, rfl⟩
    refine Exists.intro es (And.intro rfl ?_)
    refine VCall.mk [2, 0] (s_rNumBad hp a L.length c z3 0 6) ⟨rfl, rfl, rfl⟩ ?_
    rintro _ _ ⟨rfl, rfl⟩
    refine VCall.mk [2, 0] (s_rNumBad hp a L.length c z3 0 1099511627776) ⟨rfl, rfl, rfl⟩ ?_
    rintro _ _ ⟨rfl, rfl⟩
    refine VCall.mk [2, 0] (s_rNumBad hp a L.length c z3 0 6) ⟨rfl, rfl, rfl⟩ ?_
    rintro _ _ ⟨rfl, rfl⟩
    refine VCall.mk [2, 0] (s_rNumBad hp a L.length c z3 0 1099511627776) ⟨rfl, rfl, rfl⟩ ?_
    rintro _ _ ⟨rfl, rfl⟩
    refine VCall.mk [2, 0] (s_rNumBad hp a L.length c z3 0 1000000000) ⟨rfl, rfl, rfl⟩ ?_
    rintro _ _ ⟨rfl, rfl⟩
    refine VCall.mk [2, 0] (s_rNumBad hp a L.length c z3 0 1125899906842624) ⟨rfl, rfl, rfl⟩ ?_
    rintro _ _ ⟨rfl, rfl⟩
    refine VCall.mk [2, 0] (s_ref_EndB hp a L.length c z3) ⟨rfl, rfl, rfl⟩ ?_
    rintro _ _ ⟨rfl, rfl⟩
    refine And.intro (fun k => absurd k (by decide)) (fun _ => ?_)
    exact fin _ (by simp [rfSt, h1, h2, h3])
  refine VCall.mk [2, 0] (s_ref_GetVec hp L a c k3 hv hby hk3 hlen) ⟨rfl, rfl, rfl⟩ ?_
  rintro _ _ (⟨v4, k4, h4, hk4, rfl, rfl⟩ | ⟨h4, rfl, z4, rfl⟩)
  rotate_left 1
  · refine VCall.mk [2, 0] (s_rNumBad hp a L.length c z4 0 1000) ⟨rfl, rfl, rfl⟩ ?_
    rintro _ _ ⟨rfl, rfl⟩
    refine VCall.mk [2, 0] (s_rBytesBad hp a L.length c z4 200) ⟨rfl, rfl, rfl⟩ ?_
    rintro _ _ ⟨rfl, rfl⟩
    refine Exists.intro es (And.intro rfl ?_)
    refine VCall.mk [2, 0] (s_rBytesBad hp a L.length c z4 200) ⟨rfl, rfl, rfl⟩ ?_
    rintro _ _ ⟨rfl, rfl⟩
    refine Exists.intro es (And.intro rfl ?_)
    refine VCall.mk [2, 0] (s_rNumBad hp a L.length c z4 0 6) ⟨rfl, rfl, rfl⟩ ?_
    rintro _ _ ⟨rfl, rfl⟩
    refine VCall.mk [2, 0] (s_rNumBad hp a L.length c z4 0 1099511627776) ⟨rfl, rfl, rfl⟩ ?_
    rintro _ _ ⟨rfl, rfl⟩
    refine VCall.mk [2, 0] (s_rNumBad hp a L.length c z4 0 6) ⟨rfl, rfl, rfl⟩ ?_
    rintro _ _ ⟨rfl, rfl⟩
    refine VCall.mk [2, 0] (s_rNumBad hp a L.length c z4 0 1099511627776) ⟨rfl, rfl, rfl⟩ ?_
    rintro _ _ ⟨rfl, rfl⟩
    refine VCall.mk [2, 0] (s_rNumBad hp a L.length c z4 0 1000000000) ⟨rfl, rfl, rfl⟩ ?_
    rintro _ _ ⟨rfl, rfl⟩
    refine VCall.mk [2, 0] (s_rNumBad hp a L.length c z4 0 1125899906842624) ⟨rfl, rfl, rfl⟩ ?_
    rintro _ _ ⟨rfl, rfl⟩
    refine VCall.mk [2, 0] (s_ref_EndB hp a L.length c z4) ⟨rfl, rfl, rfl⟩ ?_
    rintro _ _ ⟨rfl, rfl⟩
    refine And.intro (fun k => absurd k (by decide)) (fun _ => ?_)
    exact fin _ (by simp [rfSt, h1, h2, h3, h4])
  refine VCall.mk [2, 0] (s_rNum hp L 0 1000 a c k4 hv hby hk4 hlen) ⟨rfl, rfl, rfl⟩ ?_
  rintro _ _ (⟨v5, k5, h5, hk5, rfl, rfl⟩ | ⟨h5, rfl, z5, rfl⟩)
  rotate_left 1
  · refine VCall.mk [2, 0] (s_rBytesBad hp a L.length c z5 200) ⟨rfl, rfl, rfl⟩ ?_
    rintro _ _ ⟨rfl, rfl⟩
    refine Exists.intro es (And.intro rfl ?_)
    refine VCall.mk [2, 0] (s_rBytesBad hp a L.length c z5 200) ⟨rfl, rfl, rfl⟩ ?_
    rintro _ _ ⟨rfl, rfl⟩
    refine Exists.intro es (And.intro rfl ?_)
    refine VCall.mk [2, 0] (s_rNumBad hp a L.length c z5 0 6) ⟨rfl, rfl, rfl⟩ ?_
    rintro _ _ ⟨rfl, rfl⟩
    refine VCall.mk [2, 0] (s_rNumBad hp a L.length c z5 0 1099511627776) ⟨rfl, rfl, rfl⟩ ?_
    rintro _ _ ⟨rfl, rfl⟩
    refine VCall.mk [2, 0] (s_rNumBad hp a L.length c z5 0 6) ⟨rfl, rfl, rfl⟩ ?_
    rintro _ _ ⟨rfl, rfl⟩
    refine VCall.mk [2, 0] (s_rNumBad hp a L.length c z5 0 1099511627776) ⟨rfl, rfl, rfl⟩ ?_
    rintro _ _ ⟨rfl, rfl⟩
    refine VCall.mk [2, 0] (s_rNumBad hp a L.length c z5 0 1000000000) ⟨rfl, rfl, rfl⟩ ?_
    rintro _ _ ⟨rfl, rfl⟩
    refine VCall.mk [2, 0] (s_rNumBad hp a L.length c z5 0 1125899906842624) ⟨rfl, rfl, rfl⟩ ?_
    rintro _ _ ⟨rfl, rfl⟩
    refine VCall.mk [2, 0] (s_ref_EndB hp a L.length c z5) ⟨rfl, rfl, rfl⟩ ?_
    rintro _ _ ⟨rfl, rfl⟩
    refine And.intro (fun k => absurd k (by decide)) (fun _ => ?_)
    exact fin _ (by simp [rfSt, h1, h2, h3, h4, h5])
  refine VCall.mk [2, 0] (s_rBytes hp L 200 a c k5 hv hlc hby hk5 hlen) ⟨rfl, rfl, rfl⟩ ?_
  rintro _ _ (⟨v6, k6, h6, hk6, o6, c6, ys6, rfl, rfl, hB6⟩ | ⟨h6, rfl, z6, rfl⟩)
  rotate_left 1
  · refine Exists.intro es (And.intro rfl ?_)
    refine VCall.mk [2, 0] (s_rBytesBad hp a L.length c z6 200) ⟨rfl, rfl, rfl⟩ ?_
    rintro _ _ ⟨rfl, rfl⟩
    refine Exists.intro es (And.intro rfl ?_)
    refine VCall.mk [2, 0] (s_rNumBad hp a L.length c z6 0 6) ⟨rfl, rfl, rfl⟩ ?_
    rintro _ _ ⟨rfl, rfl⟩
    refine VCall.mk [2, 0] (s_rNumBad hp a L.length c z6 0 1099511627776) ⟨rfl, rfl, rfl⟩ ?_
    rintro _ _ ⟨rfl, rfl⟩
    refine VCall.mk [2, 0] (s_rNumBad hp a L.length c z6 0 6) ⟨rfl, rfl, rfl⟩ ?_
    rintro _ _ ⟨rfl, rfl⟩
    refine VCall.mk [2, 0] (s_rNumBad hp a L.length c z6 0 1099511627776) ⟨rfl, rfl, rfl⟩ ?_
    rintro _ _ ⟨rfl, rfl⟩
    refine VCall.mk [2, 0] (s_rNumBad hp a L.length c z6 0 1000000000) ⟨rfl, rfl, rfl⟩ ?_
    rintro _ _ ⟨rfl, rfl⟩
    refine VCall.mk [2, 0] (s_rNumBad hp a L.length c z6 0 1125899906842624) ⟨rfl, rfl, rfl⟩ ?_
    rintro _ _ ⟨rfl, rfl⟩
    refine VCall.mk [2, 0] (s_ref_EndB hp a L.length c z6) ⟨rfl, rfl, rfl⟩ ?_
    rintro _ _ ⟨rfl, rfl⟩
    refine And.intro (fun k => absurd k (by decide)) (fun _ => ?_)
    exact fin _ (by simp [rfSt, h1, h2, h3, h4, h5, h6])
  refine Exists.intro v6 (And.intro (b2sOf hB6) ?_)
  refine VCall.mk [2, 0] (s_rBytes hp L 200 a c k6 hv hlc hby hk6 hlen) ⟨rfl, rfl, rfl⟩ ?_
  rintro _ _ (⟨v7, k7, h7, hk7, o7, c7, ys7, rfl, rfl, hB7⟩ | ⟨h7, rfl, z7, rfl⟩)
  rotate_left 1
  · refine Exists.intro es (And.intro rfl ?_)
    refine VCall.mk [2, 0] (s_rNumBad hp a L.length c z7 0 6) ⟨rfl, rfl, rfl⟩ ?_
    rintro _ _ ⟨rfl, rfl⟩
    refine VCall.mk [2, 0] (s_rNumBad hp a L.length c z7 0 1099511627776) ⟨rfl, rfl, rfl⟩ ?_
    rintro _ _ ⟨rfl, rfl⟩
    refine VCall.mk [2, 0] (s_rNumBad hp a L.length c z7 0 6) ⟨rfl, rfl, rfl⟩ ?_
    rintro _ _ ⟨rfl, rfl⟩
    refine VCall.mk [2, 0] (s_rNumBad hp a L.length c z7 0 1099511627776) ⟨rfl, rfl, rfl⟩ ?_
    rintro _ _ ⟨rfl, rfl⟩
    refine VCall.mk [2, 0] (s_rNumBad hp a L.length c z7 0 1000000000) ⟨rfl, rfl, rfl⟩ ?_
    rintro _ _ ⟨rfl, rfl⟩
    refine VCall.mk [2, 0] (s_rNumBad hp a L.length c z7 0 1125899906842624) ⟨rfl, rfl, rfl⟩ ?_
    rintro _ _ ⟨rfl, rfl⟩
    refine VCall.mk [2, 0] (s_ref_EndB hp a L.length c z7) ⟨rfl, rfl, rfl⟩ ?_
    rintro _ _ ⟨rfl, rfl⟩
    refine And.intro (fun k => absurd k (by decide)) (fun _ => ?_)
    exact fin _ (by simp [rfSt, h1, h2, h3, h4, h5, h6, h7])
  refine Exists.intro v7 (And.intro (b2sOf hB7) ?_)
  refine VCall.mk [2, 0] (s_rNum hp L 0 6 a c k7 hv hby hk7 hlen) ⟨rfl, rfl, rfl⟩ ?_
  rintro _ _ (⟨v8, k8, h8, hk8, rfl, rfl⟩ | ⟨h8, rfl, z8, rfl⟩)
  rotate_left 1
  · refine VCall.mk [2, 0] (s_rNumBad hp a L.length c z8 0 1099511627776) ⟨rfl, rfl, rfl⟩ ?_
    rintro _ _ ⟨rfl, rfl⟩
    refine VCall.mk [2, 0] (s_rNumBad hp a L.length c z8 0 6) ⟨rfl, rfl, rfl⟩ ?_
    rintro _ _ ⟨rfl, rfl⟩
    refine VCall.mk [2, 0] (s_rNumBad hp a L.length c z8 0 1099511627776) ⟨rfl, rfl, rfl⟩ ?_
    rintro _ _ ⟨rfl, rfl⟩
    refine VCall.mk [2, 0] (s_rNumBad hp a L.length c z8 0 1000000000) ⟨rfl, rfl, rfl⟩ ?_
    rintro _ _ ⟨rfl, rfl⟩
    refine VCall.mk [2, 0] (s_rNumBad hp a L.length c z8 0 1125899906842624) ⟨rfl, rfl, rfl⟩ ?_
    rintro _ _ ⟨rfl, rfl⟩
    refine VCall.mk [2, 0] (s_ref_EndB hp a L.length c z8) ⟨rfl, rfl, rfl⟩ ?_
    rintro _ _ ⟨rfl, rfl⟩
    refine And.intro (fun k => absurd k (by decide)) (fun _ => ?_)
    exact fin _ (by simp [rfSt, h1, h2, h3, h4, h5, h6, h7, h8])
  refine VCall.mk [2, 0] (s_rNum hp L 0 1099511627776 a c k8 hv hby hk8 hlen) ⟨rfl, rfl, rfl⟩ ?_
  rintro _ _ (⟨v9, k9, h9, hk9, rfl, rfl⟩ | ⟨h9, rfl, z9, rfl⟩)
  rotate_left 1
  · refine VCall.mk [2, 0] (s_rNumBad hp a L.length c z9 0 6) ⟨rfl, rfl, rfl⟩ ?_
    rintro _ _ ⟨rfl, rfl⟩
    refine VCall.mk [2, 0] (s_rNumBad hp a L.length c z9 0 1099511627776) ⟨rfl, rfl, rfl⟩ ?_
    rintro _ _ ⟨rfl, rfl⟩
    refine VCall.mk [2, 0] (s_rNumBad hp a L.length c z9 0 1000000000) ⟨rfl, rfl, rfl⟩ ?_
    rintro _ _ ⟨rfl, rfl⟩
    refine VCall.mk [2, 0] (s_rNumBad hp a L.length c z9 0 1125899906842624) ⟨rfl, rfl, rfl⟩ ?_
    rintro _ _ ⟨rfl, rfl⟩
    refine VCall.mk [2, 0] (s_ref_EndB hp a L.length c z9) ⟨rfl, rfl, rfl⟩ ?_
    rintro _ _ ⟨rfl, rfl⟩
    refine And.intro (fun k => absurd k (by decide)) (fun _ => ?_)
    exact fin _ (by simp [rfSt, h1, h2, h3, h4, h5, h6, h7, h8, h9])
  refine VCall.mk [2, 0] (s_rNum hp L 0 6 a c k9 hv hby hk9 hlen) ⟨rfl, rfl, rfl⟩ ?_
  rintro _ _ (⟨v10, k10, h10, hk10, rfl, rfl⟩ | ⟨h10, rfl, z10, rfl⟩)
  rotate_left 1
  · refine VCall.mk [2, 0] (s_rNumBad hp a L.length c z10 0 1099511627776) ⟨rfl, rfl, rfl⟩ ?_
    rintro _ _ ⟨rfl, rfl⟩
    refine VCall.mk [2, 0] (s_rNumBad hp a L.length c z10 0 1000000000) ⟨rfl, rfl, rfl⟩ ?_
    rintro _ _ ⟨rfl, rfl⟩
    refine VCall.mk [2, 0] (s_rNumBad hp a L.length c z10 0 1125899906842624) ⟨rfl, rfl, rfl⟩ ?_
    rintro _ _ ⟨rfl, rfl⟩
    refine VCall.mk [2, 0] (s_ref_EndB hp a L.length c z10) ⟨rfl, rfl, rfl⟩ ?_
    rintro _ _ ⟨rfl, rfl⟩
    refine And.intro (fun k => absurd k (by decide)) (fun _ => ?_)
    exact fin _ (by simp [rfSt, h1, h2, h3, h4, h5, h6, h7, h8, h9, h10])
  refine VCall.mk [2, 0] (s_rNum hp L 0 1099511627776 a c k10 hv hby hk10 hlen) ⟨rfl, rfl, rfl⟩ ?_
  rintro _ _ (⟨v11, k11, h11, hk11, rfl, rfl⟩ | ⟨h11, rfl, z11, rfl⟩)
  rotate_left 1
  · refine VCall.mk [2, 0] (s_rNumBad hp a L.length c z11 0 1000000000) ⟨rfl, rfl, rfl⟩ ?_
    rintro _ _ ⟨rfl, rfl⟩
    refine VCall.mk [2, 0] (s_rNumBad hp a L.length c z11 0 1125899906842624) ⟨rfl, rfl, rfl⟩ ?_
    rintro _ _ ⟨rfl, rfl⟩
    refine VCall.mk [2, 0] (s_ref_EndB hp a L.length c z11) ⟨rfl, rfl, rfl⟩ ?_
    rintro _ _ ⟨rfl, rfl⟩
    refine And.intro (fun k => absurd k (by decide)) (fun _ => ?_)
    exact fin _ (by simp [rfSt, h1, h2, h3, h4, h5, h6, h7, h8, h9, h10, h11])
  refine VCall.mk [2, 0] (s_rNum hp L 0 1000000000 a c k11 hv hby hk11 hlen) ⟨rfl, rfl, rfl⟩ ?_
  rintro _ _ (⟨v12, k12, h12, hk12, rfl, rfl⟩ | ⟨h12, rfl, z12, rfl⟩)
  rotate_left 1
  · refine VCall.mk [2, 0] (s_rNumBad hp a L.length c z12 0 1125899906842624) ⟨rfl, rfl, rfl⟩ ?_
    rintro _ _ ⟨rfl, rfl⟩
    refine VCall.mk [2, 0] (s_ref_EndB hp a L.length c z12) ⟨rfl, rfl, rfl⟩ ?_
    rintro _ _ ⟨rfl, rfl⟩
    refine And.intro (fun k => absurd k (by decide)) (fun _ => ?_)
    exact fin _ (by simp [rfSt, h1, h2, h3, h4, h5, h6, h7, h8, h9, h10, h11, h12])
  refine VCall.mk [2, 0] (s_rNum hp L 0 1125899906842624 a c k12 hv hby hk12 hlen) ⟨rfl, rfl, rfl⟩ ?_
  rintro _ _ (⟨v13, k13, h13, hk13, rfl, rfl⟩ | ⟨h13, rfl, z13, rfl⟩)
  rotate_left 1
  · refine VCall.mk [2, 0] (s_ref_EndB hp a L.length c z13) ⟨rfl, rfl, rfl⟩ ?_
    rintro _ _ ⟨rfl, rfl⟩
    refine And.intro (fun k => absurd k (by decide)) (fun _ => ?_)
    exact fin _ (by simp [rfSt, h1, h2, h3, h4, h5, h6, h7, h8, h9, h10, h11, h12, h13])
  refine VCall.mk [2, 0] (s_ref_End hp a L.length c k13 false) ⟨rfl, rfl, rfl⟩ ?_
  rintro _ _ ⟨rfl, rfl⟩
  have hall : rfSt L = if (L.drop k13).length = 0 ∧ goodT (getRow v1 (v2, v3) v4 v5 v6 v7 (v8, v9) (v10, v11) v12 v13) = true then some (getRow v1 (v2, v3) v4 v5 v6 v7 (v8, v9) (v10, v11) v12 v13) else none := by
    simp only [rfSt, h1, h2, h3, h4, h5, h6, h7, h8, h9, h10, h11, h12, h13, Option.bind_some]
  refine And.intro (fun k => ?_) (fun k => ?_)
  rotate_left 1
  · have k : decide (k13 = L.length) = false := nT' k
    exact fin _ (by rw [hall, if_neg]; rintro ⟨e, _⟩; rw [List.length_drop] at e; exact of_decide_eq_false k (by omega))
  have e : (L.drop k13).length = 0 := by
    have k : decide (k13 = L.length) = true := nF' k
    rw [List.length_drop, of_decide_eq_true k]; omega
  have s6 := rdText_size h6
  have s7 := rdText_size h7
  refine VCall.mk [0] (s_refGood hp hu (getRow v1 (v2, v3) v4 v5 v6 v7 (v8, v9) (v10, v11) v12 v13) (show v6.size ≤ _ by omega) (show v7.size ≤ _ by omega)) ⟨rfl, rfl, rfl⟩ ?_
  rintro _ _ ⟨rfl, rfl⟩
  refine And.intro (fun k2 => ?_) (fun k2 => ?_)
  · have k2 := nT' k2
    exact fin _ (by rw [hall, if_neg]; rintro ⟨_, e⟩; rw [k2] at e; cases e)
  · have k2 := nF' k2
    rw [if_pos ⟨e, k2⟩] at hall
    exact VRet.mk [0] (.tup [.agg (stcells (getRow v1 (v2, v3) v4 v5 v6 v7 (v8, v9) (v10, v11) v12 v13)), bv true]) [.heap hp] ⟨rfl, rfl, rfl⟩ ⟨by rw [hall]; rfl, rfl⟩
end Go.Proofs

namespace Go.Proofs
open Go Go.V Go.Lib
set_option maxRecDepth 100000
set_option linter.unusedVariables false

theorem s_ref1_Num (l : List Int) (xs : List Value) (te : TypeId) (o c : Nat) (hb : Brow xs o c l) (hl : l.length ≤ 9000000) (v : Int) (hv : 0 ≤ v ∧ v < 4611686018427387904) :
    Ctr Tryz.prog F_rostrumref1_Num [.sl 0 o l.length c, iv v] [.arr xs te] (fun x H => ∃ o' c' ys, x = .sl 1 o' (l ++ Go.V.numB (2 * v.toNat)).length c' ∧ H = [.arr xs te, .arr ys T_uint8] ∧ Brow ys o' c' (l ++ Go.V.numB (2 * v.toNat))) := by
  refine i_rostrumref1_Num.spec follows ?_
  have hlen := numB_len10 (u := 2 * v.toNat) (by omega)
  refine Exists.intro _ (And.intro (w64u (n := v) (by omega)) ?_)
  refine And.intro (by omega) (Exists.intro _ (And.intro (shl1 hv) ?_))
  refine And.intro (fun h => ?_) (fun _ => ?_)
  · have := of_decide_eq_true h; omega
  refine And.intro ⟨⟨Nat.zero_le _, by simp, rfl⟩, ⟨?_, ?_⟩, by omega⟩ ?_
  · rw [hb.take1]; simp
  · rw [hb.take1]; exact cellsOK_ints l
  intro ys1 o1 c1 hz1
  have hb1 : Brow ys1 o1 c1 l := by
    refine ⟨by omega, by omega, ?_⟩
    have := hz1.2.2
    rw [hb.take1] at this
    simpa using this
  refine VLoop.mk BX (fun x => [(5, .raw (.int .u64 (x.u : Int))), (6, .sl 1 x.o x.l.length x.c)])
    (fun x => [.arr xs te, .arr x.xs T_uint8])
    (fun x => Brow x.xs x.o x.c x.l ∧ x.l ++ Go.V.numB x.u = l ++ Go.V.numB (2 * v.toNat) ∧ x.u < 18446744073709551616) (fun x => x.u) ⟨ys1, o1, c1, l, 2 * v.toNat⟩ [0, 2] ⟨⟨hb1, rfl, by simp only; omega⟩, ?_, rfl, rfl⟩ ?_
  · show [_, nkb (.sl 2 o1 (0 + l.length) c1)] = [_, nkb (.sl 2 o1 l.length c1)]
    rw [Nat.zero_add]; rfl
  clear hb1
  rintro ⟨xs2, o2, c2, l2, u⟩ ⟨hB, hN, hu64⟩ g
  simp only at hB hN hu64
  have hNl := congrArg List.length hN
  simp only [List.length_append] at hNl
  have hlu : l2.length ≤ 10000000 := by omega
  refine And.intro (fun h => ?_) (fun h => ?_)
  · have h := of_decide_eq_true h
    have hu : ¬ u < 128 := by simp only at h; omega
    refine And.intro (by omega) (Exists.intro _ (And.intro (rem128 u) ?_))
    refine Exists.intro _ (And.intro (w8r u) ?_)
    refine Exists.intro _ (And.intro (add128 u) ?_)
    refine And.intro ⟨⟨hB.1, by have := hB.2.1; simpa using this, rfl⟩, ⟨rfl, rfl⟩, by simp only; omega⟩ ?_
    intro zs' o' c' hz
    refine And.intro (by omega) (Exists.intro _ (And.intro (quo128 u hu64) ?_))
    refine Exists.intro ⟨zs', o', c', l2 ++ [((u % 128 + 128 : Nat) : Int)], u / 128⟩ (Exists.intro [0, 3] (And.intro ⟨⟨⟨?_, ?_, ?_⟩, ?_, by show u / 128 < _; omega⟩, ?_⟩ ⟨?_, rfl, rfl⟩))
    · have := hz.1; simp only at this; simp; omega
    · have := hz.2.1; simpa using this
    · have := hz.2.2
      simp only at this
      rw [hB.take1] at this
      simpa using this
    · rw [← hN, numB_ge hu, List.append_assoc]; rfl
    · show u / 128 < u; omega
    · show [_, nkb (.sl 3 o' (l2.length + 1) c')] = [_, nkb (.sl 3 o' (l2 ++ [((u % 128 + 128 : Nat) : Int)]).length c')]
      rw [List.length_append]; rfl
  · have h := of_decide_eq_false h
    have hu : u < 128 := by simp only at h; omega
    refine Exists.intro _ (And.intro (Go.V.w8 u) ?_)
    refine And.intro ⟨⟨hB.1, by have := hB.2.1; simpa using this, rfl⟩, ⟨rfl, rfl⟩, by simp only; omega⟩ ?_
    intro zs' o' c' hz
    have hm : u % 256 = u := by omega
    rw [numB_lt hu] at hN
    refine VRet.mk [0, 3] (.sl 1 o' (l2.length + 1) c') [.arr xs te, .arr zs' T_uint8] ⟨rfl, rfl, rfl⟩ ⟨o', c', zs', ?_, rfl, ?_⟩
    · show SV.sl 1 o' (l2.length + 1) c' = _; rw [← hN, List.length_append]; rfl
    · rw [← hN]
      refine ⟨?_, ?_, ?_⟩
      · have := hz.1; simp only at this; simp; omega
      · have := hz.2.1; simpa using this
      · have := hz.2.2
        simp only at this
        rw [hB.take1, hm] at this
        simpa using this

/-! ### Clocks in bytes -/
theorem s_rostrumref7_PutVec (l : List Int) (xs : List Value) (te : TypeId) (o c : Nat) (hb : Brow xs o c l) (hl : l.length ≤ 8000000) (v : Nat → Int) (hv : ∀ r, r < 7 → 0 ≤ v r ∧ v r ≤ 1099511627776) :
    Ctr Tryz.prog F_rostrumref7_PutVec [.sl 0 o l.length c, .agg (vcells v)] [.arr xs te] (fun x H => ∃ o' c' ys, x = .sl 1 o' (l ++ vecB v 7).length c' ∧ H = [.arr xs te, .arr ys T_uint8] ∧ Brow ys o' c' (l ++ vecB v 7)) := by
  refine i_rostrumref7_PutVec.spec follows ?_
  refine VLoop.mk (Option BX) (fun x => match x with | none => [(0, .sl 0 o l.length c), (3, .ptr 1 0), (5, iv (0 : Nat))] | some x => [(0, .sl 2 x.o x.l.length x.c), (3, .ptr 1 0), (5, iv (x.u : Nat))])
    (fun x => match x with | none => [.arr xs te, .cells (vcells v) T_rostrumref7_Vec] | some x => [.arr xs te, .cells (vcells v) T_rostrumref7_Vec, .arr x.xs T_uint8])
    (fun x => match x with | none => True | some x => Brow x.xs x.o x.c x.l ∧ x.l = l ++ vecB v x.u ∧ x.u ≤ 7) (fun x => match x with | none => 8 | some x => 7 - x.u) none [0, 1] ⟨trivial, rfl, rfl, rfl⟩ ?_
  rintro (_ | ⟨xs2, o2, c2, l2, i⟩) hinv g
  · refine And.intro (fun _ => ?_) (fun h => absurd h (by decide))
    have := hv 0 (by omega)
    refine And.intro ⟨by omega, by omega⟩ (Exists.intro _ (And.intro (vcells_get' v (n := (0 : Nat)) (by omega) []) ?_))
    refine VCall.mk [0] (s_ref1_Num l xs te o c hb (by omega) (v 0) (by omega)) ⟨rfl, rfl, rfl⟩ ?_
    rintro _ _ ⟨o', c', ys, rfl, rfl, hB⟩
    refine Exists.intro _ (And.intro (wrap64 (n := ((0 : Nat) : Int) + 1) (by omega)) ?_)
    exact Exists.intro (some ⟨ys, o', c', l ++ Go.V.numB (2 * (v 0).toNat), 1⟩) (Exists.intro [0, 1, 2] (And.intro ⟨⟨hB, by simp [vecB], by show 1 ≤ 7; omega⟩, by show 7 - 1 < 8; omega⟩ ⟨rfl, rfl, rfl⟩))
  have hinv : Brow xs2 o2 c2 l2 ∧ l2 = l ++ vecB v i ∧ i ≤ 7 := hinv
  obtain ⟨hB, rfl, hi⟩ := hinv
  have hvl := vecB_len hv i hi
  refine And.intro (fun h => ?_) (fun h => ?_)
  · have h := of_decide_eq_true h
    have hi7 : 0 ≤ (i : Int) ∧ (i : Int) < 7 := ⟨by omega, h⟩
    have hvi := hv i (by simp only at h; omega)
    have hw : IntKind.i64.wrap ((i : Int) + 1) = ((i + 1 : Nat) : Int) := wrap64 (by omega)
    have hg : (vcells v)[0 + (i : Int).toNat * 1]? = some (iv (v (i : Int).toNat)) := by have := vcells_get' v hi7 []; simpa using this
    refine And.intro hi7 (Exists.intro _ (And.intro hg ?_))
    refine VCall.mk [2] (s_ref1_Num (l ++ vecB v i) xs2 T_uint8 o2 c2 hB (by rw [List.length_append]; omega) (v (i : Int).toNat) (by rw [Int.toNat_natCast]; omega)) ⟨rfl, rfl, rfl⟩ ?_
    rintro _ _ ⟨o', c', ys, rfl, rfl, hB'⟩
    refine Exists.intro _ (And.intro hw ?_)
    refine Exists.intro (some ⟨ys, o', c', l ++ vecB v i ++ Go.V.numB (2 * (v (i : Int).toNat).toNat), i + 1⟩) (Exists.intro [0, 1, 3] (And.intro ⟨⟨hB', ?_, by show i + 1 ≤ 7; simp only at h; omega⟩, ?_⟩ ⟨rfl, rfl, rfl⟩))
    · rw [Int.toNat_natCast, List.append_assoc]; rfl
    · show 7 - (i + 1) < 7 - i; simp only at h; omega
  · have h := of_decide_eq_false h
    have h7 : i = 7 := by simp only at h; omega
    subst h7
    exact VRet.mk [0, 2] (.sl 1 o2 (l ++ vecB v 7).length c2) [.arr xs te, .arr xs2 T_uint8] ⟨rfl, rfl, rfl⟩ ⟨o2, c2, xs2, rfl, rfl, hB⟩
theorem s_ref1_Bytes (l m : List Int) (xs zs : List Value) (te te2 : TypeId) (o c o2 c2 : Nat) (hb : Brow xs o c l) (hb2 : Brow zs o2 c2 m) (hl : l.length ≤ 8000000) (hm : m.length ≤ 500000) :
    Ctr Tryz.prog F_rostrumref1_Bytes [.sl 0 o l.length c, .sl 1 o2 m.length c2] [.arr xs te, .arr zs te2]
      (fun x H => ∃ o' c' ys, x = .sl 2 o' (l ++ Go.V.numB (2 * m.length) ++ m).length c' ∧ H = [.arr xs te, .arr zs te2, .arr ys T_uint8] ∧ Brow ys o' c' (l ++ Go.V.numB (2 * m.length) ++ m)) := by
  refine i_rostrumref1_Bytes.spec follows ?_
  have hn := numB_len10 (u := 2 * m.length) (by omega)
  have hN := s_ref1_Num l xs te o c hb (by omega) (m.length : Int) (by omega)
  rw [Int.toNat_natCast] at hN
  refine VCall.mk [0] hN ⟨rfl, rfl, rfl⟩ ?_
  rintro _ _ ⟨o1, c1, ys1, rfl, rfl, hb1⟩
  have hlen : (l ++ Go.V.numB (2 * m.length)).length ≤ 8000010 := by rw [List.length_append]; omega
  refine And.intro ⟨⟨hb1.1, by have := hb1.2.1; simpa using this, rfl⟩, ⟨?_, ?_⟩, by omega⟩ ?_
  · rw [hb2.take1]; simp
  · rw [hb2.take1]; exact cellsOK_ints m
  intro zs' o' c' hz
  refine VRet.mk [0, 1, 3] (.sl 2 o' ((l ++ Go.V.numB (2 * m.length)).length + m.length) c') [.arr xs te, .arr zs te2, .arr zs' T_uint8] ⟨rfl, rfl, rfl⟩ ⟨o', c', zs', ?_, rfl, ?_, ?_, ?_⟩
  · rw [List.length_append (bs := m)]
  · have := hz.1; rw [List.length_append (bs := m)]; exact this
  · have := hz.2.1; simpa using this
  · have := hz.2.2
    rw [hb2.take1, hb1.take1, Nat.mul_one] at this
    rw [List.length_append (bs := m), List.map_append (l₂ := m)]
    exact this
end Go.Proofs

namespace Go.Proofs
open Go Go.V Go.Lib
set_option maxRecDepth 100000
set_option linter.unusedVariables false

def numsL (s : ST) : List Int := [s.ar, s.an, s.br, s.bn, s.amount, s.funds]
def L5 (s : ST) : List Int := (((([] ++ zB s.kind) ++ zB s.rep) ++ zB s.n) ++ vecB s.seen 7) ++ zB s.reds
def L7 (s : ST) : List Int := (L5 s ++ textB s.name) ++ textB s.user
theorem put_L7 (s : ST) : putB s = L7 s ++ (numsL s).flatMap zB := by
  simp only [putB, L7, L5, numsL, List.flatMap_cons, List.flatMap_nil, List.append_assoc, List.append_nil, List.nil_append]
theorem strBrow (s : ByteArray) {cp : Nat} (hcp : s.size ≤ cp) : Brow (s.data.toList.map (fun b => Value.int .u8 b.toNat) ++ List.replicate (cp - s.size) (.int .u8 0)) 0 cp (strL s) := by
  refine ⟨by rw [strL_len]; exact hcp, ?_, ?_⟩
  · have : s.data.toList.length = s.size := by simp
    simp only [List.length_append, List.length_map, List.length_replicate]; omega
  · rw [List.drop_zero, strL_len]
    have : (s.data.toList.map (fun b => Value.int .u8 b.toNat)).length = s.size := by simp
    rw [List.take_append_of_le_length (by omega), List.take_of_length_le (by omega), strL, List.map_map]
    rfl
theorem numsTake {l : List Int} {i : Nat} (h : i < l.length) : (l.take (i + 1)).flatMap zB = (l.take i).flatMap zB ++ zB l[i] := by
  rw [← List.take_append_getElem h, List.flatMap_append]; simp
theorem numsLen {l : List Int} (h : ∀ n, n ∈ l → n < 4611686018427387904) : (l.flatMap zB).length ≤ 10 * l.length := by
  induction l with
  | nil => simp
  | cons a l ih =>
    have h1 := zB_len (h a (by simp))
    have h2 := ih fun n hn => h n (by simp [hn])
    simp only [List.flatMap_cons, List.length_append, List.length_cons]; omega
set_option maxHeartbeats 4000000 in
theorem s_refPut (h : Nat → Option Obj) (hu : Uni h) (s : ST) (z1 : s.name.size ≤ 1000) (z2 : s.user.size ≤ 1000) :
    Ctr Tryz.prog F_rostrumref24_Put [.agg (stcells s)] [.heap h] (fun x H => ∃ o' c' ys, x = .sl 1 o' (genP s).length c' ∧ H = [.heap h, .arr ys T_uint8] ∧ Brow ys o' c' (genP s)) := by
  refine i_rostrumref24_Put.spec follows ?_
  refine VCall.mk [0] (s_refGood h hu s z1 z2) ⟨rfl, rfl, rfl⟩ ?_
  rintro _ _ ⟨rfl, rfl⟩
  refine And.intro (fun k => ?_) (fun k => ?_)
  · have k := nT' k
    refine VRet.nil T_uint8 [0] [] ⟨rfl, rfl⟩ (VRet.mk [0, 2] (.sl 1 0 0 0) [.heap h, .arr [] T_uint8] ⟨rfl, rfl, rfl⟩ ⟨0, 0, [], ?_, rfl, ?_⟩)
    · rw [genP, k]; rfl
    · rw [genP, k]; exact brow_nil
  have k := nF' k
  have hs := good_sm k z1 z2
  have hgp : genP s = putB s := by rw [genP, k]; rfl
  rw [hgp]
  have h1 := zB_len (v := s.kind) (by have := hs.k; omega)
  have h2 := zB_len (v := s.rep) (by have := hs.r; omega)
  have h3 := zB_len (v := s.n) (by have := hs.n; omega)
  have h4 := vecB_len hs.v 7 (by omega)
  have h5 := zB_len (v := s.reds) (by have := hs.reds; omega)
  have h6 := textB_len hs.nm
  have h7 := textB_len hs.us
  refine VCall.nil T_uint8 [0] [] ⟨rfl, rfl⟩ (VCall.mk [2] (s_ref1_Num [] [] T_uint8 0 0 brow_nil (by simp) s.kind (by have := hs.k; omega)) ⟨rfl, rfl, rfl⟩ ?_)
  rintro _ _ ⟨o1, c1, y1, rfl, rfl, b1⟩
  refine And.intro rfl ?_
  refine And.intro rfl ?_
  refine VCall.mk [3] (s_ref1_Num ([] ++ zB s.kind) y1 T_uint8 o1 c1 b1 (by simp only [List.length_append, List.length_nil]; omega) s.rep (by have := hs.r; omega)) ⟨rfl, rfl, rfl⟩ ?_
  rintro _ _ ⟨o2, c2, y2, rfl, rfl, b2⟩
  refine And.intro rfl ?_
  refine VCall.mk [4] (s_ref1_Num (([] ++ zB s.kind) ++ zB s.rep) y2 T_uint8 o2 c2 b2 (by simp only [List.length_append, List.length_nil]; omega) s.n (by have := hs.n; omega)) ⟨rfl, rfl, rfl⟩ ?_
  rintro _ _ ⟨o3, c3, y3, rfl, rfl, b3⟩
  refine VCall.mk [5] (s_rostrumref7_PutVec ((([] ++ zB s.kind) ++ zB s.rep) ++ zB s.n) y3 T_uint8 o3 c3 b3 (by simp only [List.length_append, List.length_nil]; omega) s.seen hs.v) ⟨rfl, rfl, rfl⟩ ?_
  rintro _ _ ⟨o4, c4, y4, rfl, rfl, b4⟩
  refine And.intro rfl ?_
  refine VCall.mk [6] (s_ref1_Num (((([] ++ zB s.kind) ++ zB s.rep) ++ zB s.n) ++ vecB s.seen 7) y4 T_uint8 o4 c4 b4 (by simp only [List.length_append, List.length_nil]; omega) s.reds (by have := hs.reds; omega)) ⟨rfl, rfl, rfl⟩ ?_
  rintro _ _ ⟨o5, c5, y5, rfl, rfl, b5⟩
  have b5 : Brow y5 o5 c5 (L5 s) := b5
  have hl5a : (L5 s).length ≤ 200 := by simp only [L5, List.length_append, List.length_nil]; omega
  have hl5 : (L5 s).length ≤ 8000000 := Nat.le_trans hl5a (by decide)
  have hl7 : (L7 s).length ≤ 2220 := by simp only [L7, List.length_append]; omega
  have hnum : ∀ n, n ∈ numsL s → 0 ≤ n ∧ n < 4611686018427387904 := by
    have e1 := hs.ar; have e2 := hs.an; have e3 := hs.br; have e4 := hs.bn; have e5 := hs.am; have e6 := hs.fu
    intro n hn
    simp only [numsL, List.mem_cons, List.not_mem_nil, or_false] at hn
    rcases hn with rfl | rfl | rfl | rfl | rfl | rfl <;> omega
  have hrow : RowG ncl 1 [.int .i64 s.ar, .int .i64 s.an, .int .i64 s.br, .int .i64 s.bn, .int .i64 s.amount, .int .i64 s.funds] 0 6 (numsL s) := ⟨Nat.le_refl 6, Nat.le_refl 6, rfl⟩
  clear b1 b2 b3 b4
  refine And.intro ?a ?b
  case a =>
    refine fun cp hcp => ?_
    refine And.intro rfl ?_
    refine And.intro ?p1 ?p2
    case p1 =>
      have hBn := s_ref1_Bytes (L5 s) (strL s.name) y5 _ T_uint8 T_uint8 o5 c5 0 cp b5 (strBrow s.name hcp) hl5 (by rw [strL_len]; omega)
      rw [strL_len] at hBn
      refine VCall.mk [7, 8] hBn ⟨rfl, rfl, rfl⟩ ?_
      rintro _ _ ⟨o6, c6, y6, rfl, rfl, b6⟩
      refine And.intro rfl ?_
      refine fun cp2 hcp2 => ?_
      have hBu := s_ref1_Bytes (L5 s ++ Go.V.numB (2 * s.name.size) ++ strL s.name) (strL s.user) y6 _ T_uint8 T_uint8 o6 c6 0 cp2 b6 (strBrow s.user hcp2) (by rw [List.append_assoc, List.length_append]; have : (Go.V.numB (2 * s.name.size) ++ strL s.name).length ≤ 1010 := textB_len z1; omega) (by rw [strL_len]; omega)
      rw [strL_len] at hBu
      refine VCall.mk [9, 10] hBu ⟨rfl, rfl, rfl⟩ ?_
      rintro _ _ ⟨o7, c7, y7, rfl, rfl, b7⟩
      have e6 : (L5 s ++ Go.V.numB (2 * s.name.size) ++ strL s.name) ++ Go.V.numB (2 * s.user.size) ++ strL s.user = L7 s := by simp only [L7, textB, List.append_assoc]
      rw [e6] at b7
      have e7 : ((L5 s ++ Go.V.numB (2 * s.name.size) ++ strL s.name) ++ Go.V.numB (2 * s.user.size) ++ strL s.user).length = (L7 s).length := by rw [e6]
      refine VLoop.mk BX (fun y => [(3, .sl 3 y.o y.l.length y.c), (4, .sl 2 0 6 6), (5, iv (y.u : Nat))])
        (fun y => [.heap h, .cells (stcells s) T_rostrumref24_Step, .arr [.int .i64 s.ar, .int .i64 s.an, .int .i64 s.br, .int .i64 s.bn, .int .i64 s.amount, .int .i64 s.funds] T_int64, .arr y.xs T_uint8])
        (fun y => Brow y.xs y.o y.c y.l ∧ y.u ≤ 6 ∧ y.l = L7 s ++ ((numsL s).take y.u).flatMap zB) (fun y => 6 - y.u) ⟨y7, o7, c7, L7 s, 0⟩ [0, 1, 12, 11]
        ⟨⟨b7, Nat.zero_le _, by simp⟩, by rw [← e7]; rfl, rfl, rfl⟩ ?_
      rintro ⟨ys, o8, c8, l8, i⟩ ⟨hb8, hi, hl8⟩ g
      simp only at hb8 hi hl8
      have hlt := numsLen (l := (numsL s).take i) (fun n hn => (hnum n (List.mem_of_mem_take hn)).2)
      have hti : ((numsL s).take i).length ≤ 6 := Nat.le_trans (List.length_take_le _ _) hi
      have hl8l : l8.length ≤ 2300 := by rw [hl8, List.length_append]; clear hBn; omega
      refine And.intro (fun t1 => ?_) (fun t1 => ?_)
      · have t1 : (i : Int) < ((6 : Nat) : Int) := of_decide_eq_true t1
        have hil : i < (numsL s).length := Int.ofNat_lt.1 t1
        have hwi : IntKind.i64.wrap ((i : Int) + 1) = ((i + 1 : Nat) : Int) := wrap64 (by clear hBn; omega)
        have hx := RowG.one hrow (fun _ => rfl) hil
        refine And.intro ⟨Int.natCast_nonneg i, t1, Nat.le_refl 6⟩ (Exists.intro _ (And.intro (by rw [Int.toNat_natCast]; exact hx) ?_))
        refine VCall.mk [3] (s_ref1_Num l8 ys T_uint8 o8 c8 hb8 (Nat.le_trans hl8l (by decide)) (numsL s)[i] (hnum _ (List.getElem_mem hil))) ⟨rfl, rfl, rfl⟩ ?_
        rintro _ _ ⟨o9, c9, y9, rfl, rfl, b9⟩
        refine Exists.intro _ (And.intro hwi ?_)
        refine Exists.intro ⟨y9, o9, c9, l8 ++ zB (numsL s)[i], i + 1⟩ (Exists.intro [0, 1, 2, 4] (And.intro ⟨⟨b9, hil, ?_⟩, subM hil⟩ ⟨rfl, rfl, rfl⟩))
        simp only
        rw [hl8, numsTake hil, List.append_assoc]
      · have hi6 : i = 6 := Nat.le_antisymm hi (Int.ofNat_le.1 (Int.not_lt.1 (of_decide_eq_false t1)))
        have e : l8 = putB s := by rw [hl8, hi6, put_L7]; rfl
        refine VRet.mk [0, 3] (.sl 1 o8 l8.length c8) [.heap h, .arr ys T_uint8] ⟨rfl, rfl, rfl⟩ ⟨o8, c8, ys, by rw [e], rfl, by rw [← e]; exact hb8⟩
    case p2 =>
      refine fun cp2 hcp2 => ?_
      have hBn := s_ref1_Bytes (L5 s) (strL s.name) y5 _ T_uint8 T_uint8 o5 c5 0 cp b5 (strBrow s.name hcp) hl5 (by rw [strL_len]; omega)
      rw [strL_len] at hBn
      refine VCall.mk [7, 8] hBn ⟨rfl, rfl, rfl⟩ ?_
      rintro _ _ ⟨o6, c6, y6, rfl, rfl, b6⟩
      have hBu := s_ref1_Bytes (L5 s ++ Go.V.numB (2 * s.name.size) ++ strL s.name) (strL s.user) y6 _ T_uint8 T_uint8 o6 c6 0 cp2 b6 (strBrow s.user hcp2) (by rw [List.append_assoc, List.length_append]; have : (Go.V.numB (2 * s.name.size) ++ strL s.name).length ≤ 1010 := textB_len z1; omega) (by rw [strL_len]; omega)
      rw [strL_len] at hBu
      refine VCall.mk [10, 9] hBu ⟨rfl, rfl, rfl⟩ ?_
      rintro _ _ ⟨o7, c7, y7, rfl, rfl, b7⟩
      have e6 : (L5 s ++ Go.V.numB (2 * s.name.size) ++ strL s.name) ++ Go.V.numB (2 * s.user.size) ++ strL s.user = L7 s := by simp only [L7, textB, List.append_assoc]
      rw [e6] at b7
      have e7 : ((L5 s ++ Go.V.numB (2 * s.name.size) ++ strL s.name) ++ Go.V.numB (2 * s.user.size) ++ strL s.user).length = (L7 s).length := by rw [e6]
      refine VLoop.mk BX (fun y => [(3, .sl 3 y.o y.l.length y.c), (4, .sl 2 0 6 6), (5, iv (y.u : Nat))])
        (fun y => [.heap h, .cells (stcells s) T_rostrumref24_Step, .arr [.int .i64 s.ar, .int .i64 s.an, .int .i64 s.br, .int .i64 s.bn, .int .i64 s.amount, .int .i64 s.funds] T_int64, .arr y.xs T_uint8])
        (fun y => Brow y.xs y.o y.c y.l ∧ y.u ≤ 6 ∧ y.l = L7 s ++ ((numsL s).take y.u).flatMap zB) (fun y => 6 - y.u) ⟨y7, o7, c7, L7 s, 0⟩ [0, 1, 12, 11]
        ⟨⟨b7, Nat.zero_le _, by simp⟩, by rw [← e7]; rfl, rfl, rfl⟩ ?_
      rintro ⟨ys, o8, c8, l8, i⟩ ⟨hb8, hi, hl8⟩ g
      simp only at hb8 hi hl8
      have hlt := numsLen (l := (numsL s).take i) (fun n hn => (hnum n (List.mem_of_mem_take hn)).2)
      have hti : ((numsL s).take i).length ≤ 6 := Nat.le_trans (List.length_take_le _ _) hi
      have hl8l : l8.length ≤ 2300 := by rw [hl8, List.length_append]; clear hBn; omega
      refine And.intro (fun t1 => ?_) (fun t1 => ?_)
      · have t1 : (i : Int) < ((6 : Nat) : Int) := of_decide_eq_true t1
        have hil : i < (numsL s).length := Int.ofNat_lt.1 t1
        have hwi : IntKind.i64.wrap ((i : Int) + 1) = ((i + 1 : Nat) : Int) := wrap64 (by clear hBn; omega)
        have hx := RowG.one hrow (fun _ => rfl) hil
        refine And.intro ⟨Int.natCast_nonneg i, t1, Nat.le_refl 6⟩ (Exists.intro _ (And.intro (by rw [Int.toNat_natCast]; exact hx) ?_))
        refine VCall.mk [3] (s_ref1_Num l8 ys T_uint8 o8 c8 hb8 (Nat.le_trans hl8l (by decide)) (numsL s)[i] (hnum _ (List.getElem_mem hil))) ⟨rfl, rfl, rfl⟩ ?_
        rintro _ _ ⟨o9, c9, y9, rfl, rfl, b9⟩
        refine Exists.intro _ (And.intro hwi ?_)
        refine Exists.intro ⟨y9, o9, c9, l8 ++ zB (numsL s)[i], i + 1⟩ (Exists.intro [0, 1, 2, 4] (And.intro ⟨⟨b9, hil, ?_⟩, subM hil⟩ ⟨rfl, rfl, rfl⟩))
        simp only
        rw [hl8, numsTake hil, List.append_assoc]
      · have hi6 : i = 6 := Nat.le_antisymm hi (Int.ofNat_le.1 (Int.not_lt.1 (of_decide_eq_false t1)))
        have e : l8 = putB s := by rw [hl8, hi6, put_L7]; rfl
        refine VRet.mk [0, 3] (.sl 1 o8 l8.length c8) [.heap h, .arr ys T_uint8] ⟨rfl, rfl, rfl⟩ ⟨o8, c8, ys, by rw [e], rfl, by rw [← e]; exact hb8⟩
  case b =>
    refine fun cp2 hcp2 => ?_
    refine And.intro rfl ?_
    refine fun cp hcp => ?_
    have hBn := s_ref1_Bytes (L5 s) (strL s.name) y5 _ T_uint8 T_uint8 o5 c5 0 cp b5 (strBrow s.name hcp) hl5 (by rw [strL_len]; omega)
    rw [strL_len] at hBn
    refine VCall.mk [7, 9] hBn ⟨rfl, rfl, rfl⟩ ?_
    rintro _ _ ⟨o6, c6, y6, rfl, rfl, b6⟩
    have hBu := s_ref1_Bytes (L5 s ++ Go.V.numB (2 * s.name.size) ++ strL s.name) (strL s.user) y6 _ T_uint8 T_uint8 o6 c6 0 cp2 b6 (strBrow s.user hcp2) (by rw [List.append_assoc, List.length_append]; have : (Go.V.numB (2 * s.name.size) ++ strL s.name).length ≤ 1010 := textB_len z1; omega) (by rw [strL_len]; omega)
    rw [strL_len] at hBu
    refine VCall.mk [10, 8] hBu ⟨rfl, rfl, rfl⟩ ?_
    rintro _ _ ⟨o7, c7, y7, rfl, rfl, b7⟩
    have e6 : (L5 s ++ Go.V.numB (2 * s.name.size) ++ strL s.name) ++ Go.V.numB (2 * s.user.size) ++ strL s.user = L7 s := by simp only [L7, textB, List.append_assoc]
    rw [e6] at b7
    have e7 : ((L5 s ++ Go.V.numB (2 * s.name.size) ++ strL s.name) ++ Go.V.numB (2 * s.user.size) ++ strL s.user).length = (L7 s).length := by rw [e6]
    refine VLoop.mk BX (fun y => [(3, .sl 3 y.o y.l.length y.c), (4, .sl 2 0 6 6), (5, iv (y.u : Nat))])
      (fun y => [.heap h, .cells (stcells s) T_rostrumref24_Step, .arr [.int .i64 s.ar, .int .i64 s.an, .int .i64 s.br, .int .i64 s.bn, .int .i64 s.amount, .int .i64 s.funds] T_int64, .arr y.xs T_uint8])
      (fun y => Brow y.xs y.o y.c y.l ∧ y.u ≤ 6 ∧ y.l = L7 s ++ ((numsL s).take y.u).flatMap zB) (fun y => 6 - y.u) ⟨y7, o7, c7, L7 s, 0⟩ [0, 1, 12, 11]
      ⟨⟨b7, Nat.zero_le _, by simp⟩, by rw [← e7]; rfl, rfl, rfl⟩ ?_
    rintro ⟨ys, o8, c8, l8, i⟩ ⟨hb8, hi, hl8⟩ g
    simp only at hb8 hi hl8
    have hlt := numsLen (l := (numsL s).take i) (fun n hn => (hnum n (List.mem_of_mem_take hn)).2)
    have hti : ((numsL s).take i).length ≤ 6 := Nat.le_trans (List.length_take_le _ _) hi
    have hl8l : l8.length ≤ 2300 := by rw [hl8, List.length_append]; clear hBn; omega
    refine And.intro (fun t1 => ?_) (fun t1 => ?_)
    · have t1 : (i : Int) < ((6 : Nat) : Int) := of_decide_eq_true t1
      have hil : i < (numsL s).length := Int.ofNat_lt.1 t1
      have hwi : IntKind.i64.wrap ((i : Int) + 1) = ((i + 1 : Nat) : Int) := wrap64 (by clear hBn; omega)
      have hx := RowG.one hrow (fun _ => rfl) hil
      refine And.intro ⟨Int.natCast_nonneg i, t1, Nat.le_refl 6⟩ (Exists.intro _ (And.intro (by rw [Int.toNat_natCast]; exact hx) ?_))
      refine VCall.mk [3] (s_ref1_Num l8 ys T_uint8 o8 c8 hb8 (Nat.le_trans hl8l (by decide)) (numsL s)[i] (hnum _ (List.getElem_mem hil))) ⟨rfl, rfl, rfl⟩ ?_
      rintro _ _ ⟨o9, c9, y9, rfl, rfl, b9⟩
      refine Exists.intro _ (And.intro hwi ?_)
      refine Exists.intro ⟨y9, o9, c9, l8 ++ zB (numsL s)[i], i + 1⟩ (Exists.intro [0, 1, 2, 4] (And.intro ⟨⟨b9, hil, ?_⟩, subM hil⟩ ⟨rfl, rfl, rfl⟩))
      simp only
      rw [hl8, numsTake hil, List.append_assoc]
    · have hi6 : i = 6 := Nat.le_antisymm hi (Int.ofNat_le.1 (Int.not_lt.1 (of_decide_eq_false t1)))
      have e : l8 = putB s := by rw [hl8, hi6, put_L7]; rfl
      refine VRet.mk [0, 3] (.sl 1 o8 l8.length c8) [.heap h, .arr ys T_uint8] ⟨rfl, rfl, rfl⟩ ⟨o8, c8, ys, by rw [e], rfl, by rw [← e]; exact hb8⟩
end Go.Proofs

namespace Go.Proofs
open Go Go.V Go.Lib
set_option maxRecDepth 100000
set_option linter.unusedVariables false

/-! ### The two readers agree -/
theorem rdN_chg {l : List Int} {a b a' b' n : Int} {l' : List Int} (h : rdN l a b = some (n, l')) (h2 : a' ≤ n ∧ n ≤ b') : rdN l a' b' = some (n, l') := by
  unfold rdN at h ⊢
  split at h
  · cases h
  · rename_i u l2 hu
    split at h
    · cases h
    · cases h
      rw [if_neg (by omega)]
theorem rdText_chg {l : List Int} {lim lim' : Int} {s : ByteArray} {l' : List Int} (h : rdText l lim = some (s, l')) (h2 : (s.size : Int) ≤ lim') : rdText l lim' = some (s, l') := by
  unfold rdText at h ⊢
  split at h
  · cases h
  · rename_i n l1 hn
    split at h
    · cases h
    · rename_i hlt
      cases h
      have hr := rdN_range hn
      have hsz : (strOf (List.take n.toNat l1)).size = n.toNat := by rw [strOf_size, List.length_take]; omega
      rw [hsz] at h2
      rw [rdN_chg hn (show (0 : Int) ≤ n ∧ n ≤ lim' by omega)]
      simp only
      rw [if_neg hlt]
theorem rdDot_some {l : List Int} {d : Int × Int} {l2 : List Int} (h : rdDot l = some (d, l2)) : ∃ l1, rdN l 0 6 = some (d.1, l1) ∧ rdN l1 0 1099511627776 = some (d.2, l2) := by
  unfold rdDot at h
  split at h
  · cases h
  · rename_i r l1 h1
    split at h
    · cases h
    · rename_i n l3 h3
      cases h
      exact ⟨l1, h1, h3⟩
theorem rdDot_mk {l l1 l2 : List Int} {r n : Int} (h1 : rdN l 0 6 = some (r, l1)) (h2 : rdN l1 0 1099511627776 = some (n, l2)) : rdDot l = some ((r, n), l2) := by
  unfold rdDot; rw [h1]; simp only; rw [h2]
theorem decode_w4 (s : ByteArray) (pos : Nat) : (Utf8.decode s pos).2 ≤ 4 := by
  unfold Utf8.decode
  repeat' (first | split | omega | (show _ ≤ 4; simp) | decide)
theorem runes_size {s : ByteArray} : ∀ {f p n : Nat}, runesFrom s f p = some n → s.size ≤ p + f → s.size ≤ p + 4 * n
  | 0, p, n, h, hf => by rw [runesFrom] at h; cases h; omega
  | f + 1, p, n, h, hf => by
    rw [runesFrom] at h
    split at h
    · rename_i hp
      split at h
      · cases hq : runesFrom s f (p + (Utf8.decode s p).2) with
        | none => rw [hq] at h; cases h
        | some m =>
          rw [hq] at h
          simp only [Option.map_some, Option.some.injEq] at h
          have h1 := decode_width_pos s p hp
          have h4 : (Utf8.decode s p).2 ≤ 4 := decode_w4 s p
          have := runes_size hq (by omega)
          omega
      · cases h
    · cases h; omega
theorem name_size {s : ByteArray} (h : goodName s = true) : s.size ≤ 80 := by
  unfold goodName at h
  split at h
  · rename_i n hn
    have := runes_size hn (by omega)
    simp only [Bool.and_eq_true, decide_eq_true_eq] at h
    omega
  · cases h
theorem word_size {t : ByteArray} {b : Bool} (h : wordB t b = true) : t.size ≤ 80 := by
  unfold wordB at h
  cases b with
  | true => simp only [Bool.true_and, Bool.not_true, Bool.false_and, Bool.or_false] at h; exact name_size h
  | false =>
    simp only [Bool.false_and, Bool.not_false, Bool.true_and, Bool.false_or] at h
    rw [strB, decide_eq_true_eq] at h
    subst h; decide
theorem good_sizes {s : ST} (h : goodT s = true) : s.name.size ≤ 80 ∧ s.user.size ≤ 80 := by
  simp only [goodT, partT, Bool.and_eq_true] at h
  exact ⟨word_size h.2.2.1, word_size h.2.2.2.1⟩
theorem rf_is (l : List Int) : rfSt l = getSt l := by
  have h1 : ∀ s, rfSt l = some s → getSt l = some s := by
    intro s h
    unfold rfSt at h
    simp only [Option.bind_eq_some_iff] at h
    obtain ⟨p1, h1, p2, h2, p3, h3, p4, h4, p5, h5, p6, h6, p7, h7, p8, h8, p9, h9, p10, h10, p11, h11, p12, h12, p13, h13, h⟩ := h
    split at h
    · rename_i hc
      have hs := good_sizes hc.2
      have hk := good_kind' hc.2
      have hn := good_dot hc.2
      have r2 := rdN_range h2
      have r3 := rdN_range h3
      have e1 := rdN_chg (a' := 0) (b' := 7) h1 (by have := rdN_range h1; omega)
      have e2 := rdDot_mk h2 (rdN_chg (a' := 0) (b' := 1099511627776) h3 (by omega))
      have e6 := rdText_chg (lim' := 80) h6 (by have := hs.1; simp only [getRow] at this; omega)
      have e7 := rdText_chg (lim' := 80) h7 (by have := hs.2; simp only [getRow] at this; omega)
      have e8 := rdDot_mk h8 h9
      have e9 := rdDot_mk h10 h11
      simp only [getSt, e1, e2, h4, h5, e6, e7, e8, e9, h12, h13, Option.bind_some]
      rw [if_pos hc]; exact h
    · cases h
  have h2 : ∀ s, getSt l = some s → rfSt l = some s := by
    intro s h
    unfold getSt at h
    simp only [Option.bind_eq_some_iff] at h
    obtain ⟨p1, h1, p2, h2, p3, h3, p4, h4, p5, h5, p6, h6, p7, h7, p8, h8, p9, h9, p10, h10, h⟩ := h
    split at h
    · rename_i hc
      have hk := good_kind' hc.2
      have hn := good_dot hc.2
      simp only [getRow] at hk hn
      obtain ⟨l2, d1, d2⟩ := rdDot_some h2
      obtain ⟨l7, d3, d4⟩ := rdDot_some h7
      obtain ⟨l8, d5, d6⟩ := rdDot_some h8
      have e1 := rdN_chg (a' := 1) (b' := 7) h1 (by omega)
      have e3 := rdN_chg (a' := 1) (b' := 1099511627776) d2 (by omega)
      have e5 := rdText_chg (lim' := 200) h5 (by have := rdText_size h5; omega)
      have e6 := rdText_chg (lim' := 200) h6 (by have := rdText_size h6; omega)
      simp only [rfSt, e1, d1, e3, h3, h4, e5, e6, d3, d4, d5, d6, h9, h10, Option.bind_some]
      rw [if_pos hc]; exact h
    · cases h
  cases hr : rfSt l with
  | some s => exact (h1 s hr).symm
  | none =>
    cases hg : getSt l with
    | none => rfl
    | some s => rw [h2 s hg] at hr; cases hr
theorem put_inj {s t : ST} (hs : goodT s = true) (ht : goodT t = true) (h : putB s = putB t) : stcells s = stcells t := by
  obtain ⟨s', h1, h2⟩ := get_put_rt hs (good_sizes hs).1 (good_sizes hs).2
  obtain ⟨t', h3, h4⟩ := get_put_rt ht (good_sizes ht).1 (good_sizes ht).2
  rw [h, h3] at h1
  cases h1
  rw [← h2, h4]
theorem vecB_ext {v w : Nat → Int} : ∀ {k : Nat}, (∀ i, i < k → v i = w i) → vecB v k = vecB w k
  | 0, _ => rfl
  | k + 1, h => by rw [vecB, vecB, vecB_ext fun i hi => h i (by omega), h k (by omega)]
theorem put_ext {s t : ST} (h : stcells s = stcells t) : putB s = putB t := by
  simp only [stcells, vcells, List.cons.injEq, SV.raw.injEq, Value.int.injEq, Value.string.injEq, true_and, and_true] at h
  obtain ⟨a1, a2, a3, v0, v1, v2, v3, v4, v5, v6, a4, a5, a6, a7, a8, a9, a10, a11, a12⟩ := h
  have hv : vecB s.seen 7 = vecB t.seen 7 := vecB_ext fun i hi => by
    have : i = 0 ∨ i = 1 ∨ i = 2 ∨ i = 3 ∨ i = 4 ∨ i = 5 ∨ i = 6 := by omega
    rcases this with e | e | e | e | e | e | e <;> subst e <;> assumption
  simp only [putB, a1, a2, a3, hv, a4, a5, a6, a7, a8, a9, a10, a11, a12]
end Go.Proofs

namespace Go.Proofs
open Go Go.V Go.Lib
set_option maxRecDepth 100000
set_option linter.unusedVariables false

theorem strOf_inj {l m : List Int} (hl : ∀ b ∈ l, 0 ≤ b ∧ b < 256) (hm : ∀ b ∈ m, 0 ≤ b ∧ b < 256) (h : strOf l = strOf m) : l = m := by
  rw [← strL_strOf hl, ← strL_strOf hm, h]
theorem genP_byt (s : ST) : ∀ b ∈ genP s, 0 ≤ b ∧ b < 256 := by
  unfold genP
  cases goodT s
  · simp
  · exact putB_byt s
theorem b2sP {ys : List Value} {o c : Nat} {s : ST} (h : Brow ys o c (genP s)) : (some ((ys.drop o).take ((genP s).length * 1), (genP s).length) : Option (List Value × Nat)) = some ((strOf (genP s)).data.toList.map (fun b => Value.int .u8 b.toNat), (strOf (genP s)).size) := by
  rw [strOf_cells (genP_byt s), strOf_size, Nat.mul_one, h.2.2]
def SB (s t : ST) : Bool := decide (s.kind = t.kind) && (decide (s.rep = t.rep) && (decide (s.n = t.n) && (decide (s.seen 0 = t.seen 0) && (decide (s.seen 1 = t.seen 1) && (decide (s.seen 2 = t.seen 2) && (decide (s.seen 3 = t.seen 3) && (decide (s.seen 4 = t.seen 4) && (decide (s.seen 5 = t.seen 5) && (decide (s.seen 6 = t.seen 6) && (decide (s.reds = t.reds) && (s.name == t.name && (s.user == t.user && (decide (s.ar = t.ar) && (decide (s.an = t.an) && (decide (s.br = t.br) && (decide (s.bn = t.bn) && (decide (s.amount = t.amount) && decide (s.funds = t.funds))))))))))))))))))
theorem bb_eq {a b : ByteArray} (h : (a == b) = true) : a = b := by
  cases a with | mk x => cases b with | mk y =>
  have h2 : (x == y) = true := h
  rw [eq_of_beq h2]
theorem SB_iff {s t : ST} : SB s t = true ↔ stcells s = stcells t := by
  constructor
  · intro h
    simp only [SB, Bool.and_eq_true, decide_eq_true_eq] at h
    obtain ⟨a1, a2, a3, v0, v1, v2, v3, v4, v5, v6, a4, a5, a6, a7, a8, a9, a10, a11, a12⟩ := h
    have a5 := bb_eq a5
    have a6 := bb_eq a6
    simp only [stcells, a1, a2, a3, v0, v1, v2, v3, v4, v5, v6, a4, a5, a6, a7, a8, a9, a10, a11, a12]
  · intro h
    simp only [stcells, vcells, List.cons.injEq, SV.raw.injEq, Value.int.injEq, Value.string.injEq, true_and, and_true] at h
    obtain ⟨a1, a2, a3, v0, v1, v2, v3, v4, v5, v6, a4, a5, a6, a7, a8, a9, a10, a11, a12⟩ := h
    simp only [SB, a1, a2, a3, v0, v1, v2, v3, v4, v5, v6, a4, a5, a6, a7, a8, a9, a10, a11, a12, decide_true, bb_self, Bool.and_true]
theorem fin_eq {s t : ST} (hs : goodT s = true) (ht : goodT t = true) : (((strOf (genP s)).toList == (strOf (genP t)).toList) == SB s t) = true := by
  have e1 : genP s = putB s := by rw [genP, hs]; rfl
  have e2 : genP t = putB t := by rw [genP, ht]; rfl
  rw [strB, e1, e2]
  by_cases he : stcells s = stcells t
  · rw [SB_iff.2 he, put_ext he]; simp
  · have h1 : SB s t = false := Bool.eq_false_iff.2 fun k => he (SB_iff.1 k)
    have h2 : ¬ strOf (putB s) = strOf (putB t) := fun k => he (put_inj hs ht (strOf_inj (putB_byt s) (putB_byt t) k))
    rw [h1, decide_eq_false h2]; rfl
set_option maxHeartbeats 8000000 in
theorem s_GenBytes_some (h : Nat → Option Obj) (hu : Uni h) (hc : CaseH h) (s t : ST) (L : List Int) (a : Option Addr) (c : Nat) (hv : RowsIs u8c 1 h (.slice a L.length c) L) (hlc : L.length ≤ c) (hby : ∀ b ∈ L, 0 ≤ b ∧ b < 256) (x : ST) (ho : getSt L = some x) :
    Ctr Tryz.prog F_rostrumlaw25_GenBytes [.agg (stcells s), .agg (stcells t), .raw (.slice a L.length c)] [.heap h] (fun r H => r = bv true ∧ H = [.heap h]) := by
  have fin : ∀ l : List SO, VRet 1 (bv true) (.heap h :: l) (fun r H => r = bv true ∧ H = [.heap h]) := fun l => VRet.mk [0] (bv true) [.heap h] ⟨rfl, rfl, rfl⟩ ⟨rfl, rfl⟩
  refine i_rostrumlaw25_GenBytes.spec follows ?_
  refine VCall.mk [0] (s_awake h hu hc) ⟨rfl, rfl, rfl⟩ ?_
  rintro _ _ ⟨rfl, rfl⟩
  refine And.intro (fun k => absurd k (by decide)) (fun _ => ?_)
  refine VCall.mk [] (s_long s) ⟨rfl, rfl, rfl⟩ ?_
  rintro _ _ ⟨rfl, rfl⟩
  refine And.intro (fun ks => ?_) (fun ks => fin _)
  refine VCall.mk [] (s_long t) ⟨rfl, rfl, rfl⟩ ?_
  rintro _ _ ⟨rfl, rfl⟩
  refine And.intro (fun kt => ?_) (fun kt => fin _)
  refine And.intro (fun kl => fin _) (fun kl => ?_)
  have kl : ¬ (500 : Int) < (L.length : Nat) := of_decide_eq_false kl
  have hlen : L.length ≤ 1000000 := by omega
  have zs := long_not ks
  obtain ⟨zs1, zs2⟩ := zs
  have zt := long_not kt
  obtain ⟨zt1, zt2⟩ := zt
  have hG := s_gen_GetH h hu L _ hv hby hlen
  have hR := s_refGet h hu L a c hv hlc hby hlen
  rw [rf_is, ho, rfV] at hR
  rw [ho, getV] at hG
  simp only [Option.getD_some, Option.getD_none, Option.isSome_some, Option.isSome_none, cond_true, cond_false] at hG hR
  have hPs := s_gen_Put h hu s (Nat.le_trans zs1 (by decide)) (Nat.le_trans zs2 (by decide))
  have hPt := s_gen_Put h hu t (Nat.le_trans zt1 (by decide)) (Nat.le_trans zt2 (by decide))
  have hRs := s_refPut h hu s (Nat.le_trans zs1 (by decide)) (Nat.le_trans zs2 (by decide))
  refine VCall.mk [0] hG ⟨rfl, rfl, rfl⟩ ?_
  rintro _ _ ⟨rfl, rfl⟩
  refine VCall.mk [0] hR ⟨rfl, rfl, rfl⟩ ?_
  rintro _ _ ⟨rfl, rfl⟩
  refine VCall.mk [0] hPs ⟨rfl, rfl, rfl⟩ ?_
  rintro _ _ ⟨o1, c1, y1, rfl, rfl, b1⟩
  refine VCall.mk [] (s_stp x) ⟨rfl, rfl, rfl⟩ ?_
  rintro _ _ ⟨rfl, rfl⟩
  refine And.intro rfl ?_
  refine And.intro (fun _ => ?_) (fun k => absurd k (by simp [bb_self]))
  refine And.intro (fun _ => ?_) (fun k => absurd k (by decide))
  refine And.intro (fun k => absurd k (by decide)) (fun _ => ?_)
  refine Exists.intro (strOf (genP s)) (And.intro (b2sP b1) ?_)
  refine VCall.mk [] (s_stp s) ⟨rfl, rfl, rfl⟩ ?_
  rintro _ _ ⟨rfl, rfl⟩
  refine And.intro (Exists.intro _ (And.intro (b2sP b1) rfl)) ?_
  refine VCall.mk [0] hRs ⟨rfl, rfl, rfl⟩ ?_
  rintro _ _ ⟨o2, c2, y2, rfl, rfl, b2⟩
  refine And.intro (Exists.intro _ (And.intro (b2sP b1) rfl)) ?_
  refine Exists.intro (strOf (genP s)) (And.intro (b2sP b2) ?_)
  refine And.intro (fun k => absurd k (by simp)) (fun _ => ?_)
  refine VCall.mk [0] (s_Good h hu s (Nat.le_trans zs1 (by decide)) (Nat.le_trans zs2 (by decide))) ⟨rfl, rfl, rfl⟩ ?_
  rintro _ _ ⟨rfl, rfl⟩
  refine And.intro (fun kg => ?_) (fun kg => ?_)
  · have kg := nT' kg
    refine VRet.mk [0] (bv _) [.heap h] ⟨rfl, rfl, rfl⟩ ⟨?_, rfl⟩
    show bv _ = bv _
    rw [genP, kg]; rfl
  have kg := nF' kg
  have hgp : genP s = putB s := by rw [genP, kg]; rfl
  have hrt := get_put_rt kg (good_sizes kg).1 (good_sizes kg).2
  obtain ⟨s', hs1, hs2⟩ := hrt
  have hsm := good_sm kg (Nat.le_trans zs1 (by decide)) (Nat.le_trans zs2 (by decide))
  have hG2 := s_gen_Get h hu (genP s) y1 T_uint8 o1 c1 b1 (genP_byt s) (by rw [hgp]; exact Nat.le_trans (putB_len hsm) (by decide))
  rw [show getSt (genP s) = some s' by rw [hgp]; exact hs1, getV] at hG2
  simp only [Option.getD_some, hs2, Option.isSome_some, cond_true] at hG2
  refine VCall.mk [5, 0] hG2 ⟨rfl, rfl, rfl⟩ ?_
  rintro _ _ ⟨rfl, rfl⟩
  refine And.intro (fun _ => ?_) (fun k => absurd k (by decide))
  refine And.intro (fun _ => ?_) (fun k => absurd k (by simp [bb_self]))
  refine VCall.mk [0] (s_Good h hu t (Nat.le_trans zt1 (by decide)) (Nat.le_trans zt2 (by decide))) ⟨rfl, rfl, rfl⟩ ?_
  rintro _ _ ⟨rfl, rfl⟩
  refine And.intro (fun kt2 => ?_) (fun kt2 => ?_)
  · have kt2 := nF' kt2
    refine Exists.intro (strOf (genP s)) (And.intro (b2sP b1) ?_)
    refine VCall.mk [0] hPt ⟨rfl, rfl, rfl⟩ ?_
    rintro _ _ ⟨o3, c3, y3, rfl, rfl, b3⟩
    refine And.intro (Exists.intro _ (And.intro (b2sP b1) rfl)) ?_
    refine And.intro rfl (And.intro rfl ?_)
    refine Exists.intro (strOf (genP t)) (And.intro (b2sP b3) ?_)
    refine VRet.mk [0] (bv _) [.heap h] ⟨rfl, rfl, rfl⟩ ⟨?_, rfl⟩
    show bv (((strOf (genP s)).toList == (strOf (genP t)).toList) == SB s t) = bv true
    rw [fin_eq kg kt2]
  · repeat refine And.intro rfl ?_
    exact fin _
set_option maxHeartbeats 8000000 in
theorem s_GenBytes_none (h : Nat → Option Obj) (hu : Uni h) (hc : CaseH h) (s t : ST) (L : List Int) (a : Option Addr) (c : Nat) (hv : RowsIs u8c 1 h (.slice a L.length c) L) (hlc : L.length ≤ c) (hby : ∀ b ∈ L, 0 ≤ b ∧ b < 256) (ho : getSt L = none) :
    Ctr Tryz.prog F_rostrumlaw25_GenBytes [.agg (stcells s), .agg (stcells t), .raw (.slice a L.length c)] [.heap h] (fun r H => r = bv true ∧ H = [.heap h]) := by
  have fin : ∀ l : List SO, VRet 1 (bv true) (.heap h :: l) (fun r H => r = bv true ∧ H = [.heap h]) := fun l => VRet.mk [0] (bv true) [.heap h] ⟨rfl, rfl, rfl⟩ ⟨rfl, rfl⟩
  refine i_rostrumlaw25_GenBytes.spec follows ?_
  refine VCall.mk [0] (s_awake h hu hc) ⟨rfl, rfl, rfl⟩ ?_
  rintro _ _ ⟨rfl, rfl⟩
  refine And.intro (fun k => absurd k (by decide)) (fun _ => ?_)
  refine VCall.mk [] (s_long s) ⟨rfl, rfl, rfl⟩ ?_
  rintro _ _ ⟨rfl, rfl⟩
  refine And.intro (fun ks => ?_) (fun ks => fin _)
  refine VCall.mk [] (s_long t) ⟨rfl, rfl, rfl⟩ ?_
  rintro _ _ ⟨rfl, rfl⟩
  refine And.intro (fun kt => ?_) (fun kt => fin _)
  refine And.intro (fun kl => fin _) (fun kl => ?_)
  have kl : ¬ (500 : Int) < (L.length : Nat) := of_decide_eq_false kl
  have hlen : L.length ≤ 1000000 := by omega
  have zs := long_not ks
  obtain ⟨zs1, zs2⟩ := zs
  have zt := long_not kt
  obtain ⟨zt1, zt2⟩ := zt
  have hG := s_gen_GetH h hu L _ hv hby hlen
  have hR := s_refGet h hu L a c hv hlc hby hlen
  rw [rf_is, ho, rfV] at hR
  rw [ho, getV] at hG
  simp only [Option.getD_some, Option.getD_none, Option.isSome_some, Option.isSome_none, cond_true, cond_false] at hG hR
  have hPs := s_gen_Put h hu s (Nat.le_trans zs1 (by decide)) (Nat.le_trans zs2 (by decide))
  have hPt := s_gen_Put h hu t (Nat.le_trans zt1 (by decide)) (Nat.le_trans zt2 (by decide))
  have hRs := s_refPut h hu s (Nat.le_trans zs1 (by decide)) (Nat.le_trans zs2 (by decide))
  refine VCall.mk [0] hG ⟨rfl, rfl, rfl⟩ ?_
  rintro _ _ ⟨rfl, rfl⟩
  refine VCall.mk [0] hR ⟨rfl, rfl, rfl⟩ ?_
  rintro _ _ ⟨rfl, rfl⟩
  refine VCall.mk [0] hPs ⟨rfl, rfl, rfl⟩ ?_
  rintro _ _ ⟨o1, c1, y1, rfl, rfl, b1⟩
  refine VCall.mk [] (s_stp zeroT') ⟨rfl, rfl, rfl⟩ ?_
  rintro _ _ ⟨rfl, rfl⟩
  refine And.intro rfl ?_
  refine And.intro (fun _ => ?_) (fun k => absurd k (by simp [bb_self]))
  refine And.intro (fun _ => ?_) (fun k => absurd k (by decide))
  refine And.intro (fun _ => ?_) (fun k => absurd k (by decide))
  refine And.intro (fun _ => ?_) (fun k => absurd k (by decide))
  refine Exists.intro (strOf (genP s)) (And.intro (b2sP b1) ?_)
  refine VCall.mk [] (s_stp s) ⟨rfl, rfl, rfl⟩ ?_
  rintro _ _ ⟨rfl, rfl⟩
  refine And.intro (Exists.intro _ (And.intro (b2sP b1) rfl)) ?_
  refine VCall.mk [0] hRs ⟨rfl, rfl, rfl⟩ ?_
  rintro _ _ ⟨o2, c2, y2, rfl, rfl, b2⟩
  refine And.intro (Exists.intro _ (And.intro (b2sP b1) rfl)) ?_
  refine Exists.intro (strOf (genP s)) (And.intro (b2sP b2) ?_)
  refine And.intro (fun k => absurd k (by simp)) (fun _ => ?_)
  refine VCall.mk [0] (s_Good h hu s (Nat.le_trans zs1 (by decide)) (Nat.le_trans zs2 (by decide))) ⟨rfl, rfl, rfl⟩ ?_
  rintro _ _ ⟨rfl, rfl⟩
  refine And.intro (fun kg => ?_) (fun kg => ?_)
  · have kg := nT' kg
    refine VRet.mk [0] (bv _) [.heap h] ⟨rfl, rfl, rfl⟩ ⟨?_, rfl⟩
    show bv _ = bv _
    rw [genP, kg]; rfl
  have kg := nF' kg
  have hgp : genP s = putB s := by rw [genP, kg]; rfl
  have hrt := get_put_rt kg (good_sizes kg).1 (good_sizes kg).2
  obtain ⟨s', hs1, hs2⟩ := hrt
  have hsm := good_sm kg (Nat.le_trans zs1 (by decide)) (Nat.le_trans zs2 (by decide))
  have hG2 := s_gen_Get h hu (genP s) y1 T_uint8 o1 c1 b1 (genP_byt s) (by rw [hgp]; exact Nat.le_trans (putB_len hsm) (by decide))
  rw [show getSt (genP s) = some s' by rw [hgp]; exact hs1, getV] at hG2
  simp only [Option.getD_some, hs2, Option.isSome_some, cond_true] at hG2
  refine VCall.mk [5, 0] hG2 ⟨rfl, rfl, rfl⟩ ?_
  rintro _ _ ⟨rfl, rfl⟩
  refine And.intro (fun _ => ?_) (fun k => absurd k (by decide))
  refine And.intro (fun _ => ?_) (fun k => absurd k (by simp [bb_self]))
  refine VCall.mk [0] (s_Good h hu t (Nat.le_trans zt1 (by decide)) (Nat.le_trans zt2 (by decide))) ⟨rfl, rfl, rfl⟩ ?_
  rintro _ _ ⟨rfl, rfl⟩
  refine And.intro (fun kt2 => ?_) (fun kt2 => ?_)
  · have kt2 := nF' kt2
    refine Exists.intro (strOf (genP s)) (And.intro (b2sP b1) ?_)
    refine VCall.mk [0] hPt ⟨rfl, rfl, rfl⟩ ?_
    rintro _ _ ⟨o3, c3, y3, rfl, rfl, b3⟩
    refine And.intro (Exists.intro _ (And.intro (b2sP b1) rfl)) ?_
    refine And.intro rfl (And.intro rfl ?_)
    refine Exists.intro (strOf (genP t)) (And.intro (b2sP b3) ?_)
    refine VRet.mk [0] (bv _) [.heap h] ⟨rfl, rfl, rfl⟩ ⟨?_, rfl⟩
    show bv (((strOf (genP s)).toList == (strOf (genP t)).toList) == SB s t) = bv true
    rw [fin_eq kg kt2]
  · repeat refine And.intro rfl ?_
    exact fin _
theorem s_GenBytes (h : Nat → Option Obj) (hu : Uni h) (hc : CaseH h) (s t : ST) (v : Value) (L : List Int) (hv : RowsIs u8c 1 h v L) (hP : (∀ b ∈ L, 0 ≤ b ∧ b < 256) ∧ ∀ a c, v = .slice a L.length c → L.length ≤ c) :
    Ctr Tryz.prog F_rostrumlaw25_GenBytes [.agg (stcells s), .agg (stcells t), .raw v] [.heap h] (fun r H => r = bv true ∧ H = [.heap h]) := by
  obtain ⟨a, c, rfl⟩ := hv.shape
  cases ho : getSt L with
  | some x => exact s_GenBytes_some h hu hc s t L a c hv (hP.2 a c rfl) hP.1 x ho
  | none => exact s_GenBytes_none h hu hc s t L a c hv (hP.2 a c rfl) hP.1 ho
end Go.Proofs

