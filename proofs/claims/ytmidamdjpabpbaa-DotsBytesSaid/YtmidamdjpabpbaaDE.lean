/- Part of the proof that the statement named in the last file holds: lemmas of the prover's own. No conditions. -/
import Derived.Test.YtmidamdjpabpbaaDD
import Derived.Test.YtmidamdjpabpbaaVD
namespace Go.Proofs
open Go Go.V
set_option maxRecDepth 100000
set_option linter.unusedVariables false

/-! ### The reader -/
abbrev rdc (k o n c : Nat) (bad : Bool) : List SV := [.sl k o n c, bv bad]
theorem s_fail (o n c : Nat) (bad : Bool) (xs : List Value) (te : TypeId) : Ctr Try.prog F_pack_Reader_fail [.ptr 0 0] [.cells (rdc 1 o n c bad) T_pack_Reader, .arr xs te]
    (fun x H => x = iv 0 ∧ H = [.cells (rdc 2 0 0 0 true) T_pack_Reader, .arr xs te, .arr [] T_uint8]) := by
  refine i_pack_Reader_fail.spec follows ?_
  exact VRet.nil T_uint8 [] [(0, 0)] ⟨rfl, rfl⟩ (VRet.mk [0, 1, 2] (iv 0) [.cells (rdc 2 0 0 0 true) T_pack_Reader, .arr xs te, .arr [] T_uint8] ⟨rfl, rfl, rfl⟩ ⟨rfl, rfl⟩)
theorem s_Bad (o n c : Nat) (bad : Bool) (xs : List Value) (te : TypeId) : Ctr Try.prog F_pack_Reader_Bad [.ptr 0 0] [.cells (rdc 1 o n c bad) T_pack_Reader, .arr xs te]
    (fun x H => x = bv bad ∧ H = [.cells (rdc 1 o n c bad) T_pack_Reader, .arr xs te]) := by
  refine i_pack_Reader_Bad.spec follows ?_
  exact VRet.mk [0, 1] (bv bad) [.cells (rdc 1 o n c bad) T_pack_Reader, .arr xs te] ⟨rfl, rfl, rfl⟩ ⟨rfl, rfl⟩
theorem s_End (o n c : Nat) (bad : Bool) (xs : List Value) (te : TypeId) : Ctr Try.prog F_pack_Reader_End [.ptr 0 0] [.cells (rdc 1 o n c bad) T_pack_Reader, .arr xs te]
    (fun x H => x = bv (!bad && decide (n = 0)) ∧ H = [.cells (rdc 1 o n c bad) T_pack_Reader, .arr xs te]) := by
  refine i_pack_Reader_End.spec follows ?_
  refine And.intro (fun h => ?_) (fun h => ?_)
  · have h : (!bad) = true := h
    refine VRet.mk [0, 1] (bv _) [.cells (rdc 1 o n c bad) T_pack_Reader, .arr xs te] ⟨rfl, rfl, rfl⟩ ⟨?_, rfl⟩
    show bv _ = bv _
    rw [h]; simp
  · have h : (!bad) = false := h
    refine VRet.mk [0, 1] (bv false) [.cells (rdc 1 o n c bad) T_pack_Reader, .arr xs te] ⟨rfl, rfl, rfl⟩ ⟨?_, rfl⟩
    show bv _ = bv _
    rw [h]; simp

theorem brow_get {xs : List Value} {o c : Nat} {l : List Int} (h : Brow xs o c l) {i : Nat} (hi : i < l.length) : xs[o + (i : Int).toNat * 1]? = some (.int .u8 l[i]) := by
  have h1 : ((xs.drop o).take l.length)[i]? = (l.map (Value.int .u8))[i]? := by rw [h.2.2]
  rw [List.getElem?_take_of_lt hi, List.getElem?_drop, List.getElem?_map, List.getElem?_eq_getElem hi] at h1
  rw [Int.toNat_natCast, Nat.mul_one]; exact h1
theorem brow_drop {xs : List Value} {o c : Nat} {l : List Int} (h : Brow xs o c l) {k : Nat} (hk : k ≤ l.length) {o' : Nat} (ho : o' = if c = k then o else o + k * 1) : Brow xs o' (c - k) (l.drop k) := by
  obtain ⟨h1, h2, h3⟩ := h
  refine ⟨by rw [List.length_drop]; omega, ?_, ?_⟩
  · subst ho; split <;> omega
  · rw [List.length_drop, List.map_drop, ← h3]
    subst ho
    split
    · have : l.length - k = 0 := by omega
      rw [this, List.take_zero, List.drop_eq_nil_of_le (by rw [List.length_take]; omega)]
    · rw [List.drop_take, List.drop_drop, Nat.mul_one]
theorem rd_end (i u : Nat) : rd [] i u = none := by simp [rd]
theorem rd_ten (l : List Int) (u : Nat) : rd l 10 u = none := by cases l <;> simp [rd]

structure NX where
  i : Nat
  u : Int
def NInv (l : List Int) (m : Nat) (x : NX) : Prop := x.i ≤ m ∧ ((x.i ≤ 9 ∧ ∃ n : Nat, x.u = n ∧ n < 2 ^ (7 * x.i) ∧ rd l 0 0 = rd (l.drop x.i) x.i n) ∨ (x.i = 10 ∧ rd l 0 0 = none))

set_option maxHeartbeats 4000000 in
theorem s_Num (l : List Int) (least most : Int) (o c : Nat) (bad : Bool) (xs : List Value) (te : TypeId) (hb : Brow xs o c l) (hby : ∀ b ∈ l, 0 ≤ b ∧ b < 256) :
    Ctr Try.prog F_pack_Reader_Num [.ptr 0 0, iv least, iv most] [.cells (rdc 1 o l.length c bad) T_pack_Reader, .arr xs te]
    (fun x H => (∃ v l', rdN l least most = some (v, l') ∧ x = iv v ∧ ∃ o' c', H = [.cells (rdc 1 o' l'.length c' bad) T_pack_Reader, .arr xs te] ∧ Brow xs o' c' l' ∧ l' <:+ l) ∨
      (rdN l least most = none ∧ x = iv 0 ∧ H = [.cells (rdc 2 0 0 0 true) T_pack_Reader, .arr xs te, .arr [] T_uint8])) := by
  refine i_pack_Reader_Num.spec follows ?_
  have hm : (if (10 : Int) < (l.length : Int) then (10 : Int) else (l.length : Int)).toNat = min l.length 10 := by split <;> omega
  refine And.intro ⟨by split <;> omega, by have := hb.1; split <;> omega⟩ ?_
  generalize (if (10 : Int) < (l.length : Int) then (10 : Int) else (l.length : Int)) = mm at hm ⊢
  refine VLoop.mk NX (fun x => [(0, .ptr 0 0), (1, iv least), (2, iv most), (7, .raw (.int .u64 x.u)), (21, .sl 1 o mm.toNat c), (22, iv mm.toNat), (23, iv x.i)])
    (fun x => [.cells (rdc 1 o l.length c bad) T_pack_Reader, .arr xs te]) (NInv l mm.toNat) (fun x => mm.toNat - x.i) ⟨0, 0⟩ [0, 1] ⟨⟨Nat.zero_le _, .inl ⟨by simp, 0, rfl, by simp, rfl⟩⟩, rfl, rfl, rfl⟩ ?_
  rintro ⟨i, u⟩ ⟨hi, hinv⟩ g
  simp only at hi hinv
  refine And.intro (fun h => ?_) (fun h => ?_)
  · have h := of_decide_eq_true h
    have him : i < mm.toNat := by simp only at h; omega
    have hil : i < l.length := by omega
    have hi9 : i ≤ 9 := by omega
    obtain ⟨n, hun, hnn, hr0⟩ : ∃ n : Nat, u = n ∧ n < 2 ^ (7 * i) ∧ rd l 0 0 = rd (l.drop i) i n := by
      rcases hinv with ⟨_, h⟩ | ⟨h, _⟩
      · exact h
      · omega
    have hby1 := hby l[i] (List.getElem_mem hil)
    obtain ⟨k, hk⟩ : ∃ k : Nat, l[i] = k := ⟨l[i].toNat, by omega⟩
    have hk256 : k < 256 := by omega
    rw [List.drop_eq_getElem_cons hil] at hr0
    have e1 : intBits .andNot .u8 l[i] 128 = ((k % 128 : Nat) : Int) := by rw [hk]; exact andNot8 hk256
    have e2 : intBits .and .u8 l[i] 128 = ((if 128 ≤ k then 128 else 0 : Nat) : Int) := by rw [hk]; exact and128 hk256
    have hcap : o + mm.toNat * 1 ≤ xs.length := by have := hb.1; have := hb.2.1; omega
    refine And.intro ⟨Int.natCast_nonneg i, h, hcap⟩ ?_
    refine Exists.intro _ (And.intro (brow_get hb hil) ?_)
    refine Exists.intro _ (And.intro e1 ?_)
    refine Exists.intro _ (And.intro (w64u (n := ((k % 128 : Nat) : Int)) (by omega)) ?_)
    have e3 : IntKind.i64.wrap (7 * (i : Int)) = ((7 * i : Nat) : Int) := by rw [wrap64 (by omega)]; omega
    refine Exists.intro _ (And.intro e3 ?_)
    refine And.intro (Int.natCast_nonneg _) (Exists.intro _ (And.intro (shl7 (k % 128) hi9) ?_))
    clear e1 e3
    have hnext : ∀ W : Int, (i ≤ 8 → ∃ n' : Nat, W = n' ∧ n' = n + k % 128 * 2 ^ (7 * i)) → 128 ≤ k → NInv l mm.toNat ⟨i + 1, W⟩ := by
      intro W hW hk
      refine ⟨by simp only; omega, ?_⟩
      simp only
      have hr1 : rd l 0 0 = rd (l.drop (i + 1)) (i + 1) (n + k % 128 * 2 ^ (7 * i)) := by
        rw [hr0, rd, if_neg (by omega), if_pos (by omega)]
        have : l[i].toNat = k := by omega
        rw [this]
      by_cases h8 : i ≤ 8
      · left
        obtain ⟨n', rfl, rfl⟩ := hW h8
        refine ⟨by omega, _, rfl, ?_, hr1⟩
        have h128 : k % 128 + 1 ≤ 128 := by omega
        have := Nat.mul_le_mul_right (2 ^ (7 * i)) h128
        rw [show 7 * (i + 1) = 7 * i + 7 by omega, Nat.pow_add]
        rw [Nat.add_mul, Nat.one_mul] at this
        omega
      · right
        have : i = 9 := by omega
        subst this
        exact ⟨rfl, by rw [hr1, rd_ten]⟩
    have hmu : mm.toNat - (i + 1) < mm.toNat - i := by omega
    have hlast : ¬ 128 ≤ k → rd l 0 0 = if (0 < i ∧ l[i] = 0) ∨ (i = 9 ∧ 1 < l[i]) then none else some (n + k * 2 ^ (7 * i), l.drop (i + 1)) := by
      intro hk2
      rw [hr0, rd, if_neg (by omega), if_neg (by omega)]
      have : l[i].toNat = k := by omega
      rw [this]
    have hfail : (¬ 128 ≤ k ∧ ((0 < i ∧ l[i] = 0) ∨ (i = 9 ∧ 1 < l[i]))) → rdN l least most = none := by
      rintro ⟨h1, h2⟩
      simp only [rdN, hlast h1, if_pos h2]
    by_cases hfit : k % 128 * 2 ^ (7 * i) < 18446744073709551616
    · have hub0 : n + k % 128 * 2 ^ (7 * i) < 18446744073709551616 := orBound hi9 hnn hfit
      have hor : intBits .or .u64 u (((k % 128 * 2 ^ (7 * i)) % 18446744073709551616 : Nat) : Int) = ((n + k % 128 * 2 ^ (7 * i) : Nat) : Int) := by rw [hun, Nat.mod_eq_of_lt hfit]; exact orAdd hi9 hnn hfit
      refine Exists.intro _ (And.intro hor ?_)
      clear hor
      refine Exists.intro _ (And.intro e2 ?_)
      clear e2
      refine And.intro (fun h2 => ?_) (fun h2 => ?_)
      · have hw : IntKind.i64.wrap ((i : Int) + 1) = ((i + 1 : Nat) : Int) := wrap64 (by omega)
        refine Exists.intro _ (And.intro hw ?_)
        exact Exists.intro ⟨i + 1, _⟩ (Exists.intro [0, 1] (And.intro ⟨hnext _ (fun _ => ⟨_, rfl, rfl⟩) (by by_cases h5 : 128 ≤ k; exact h5; simp [h5] at h2), hmu⟩ ⟨rfl, rfl, rfl⟩))
      · have hk128 : ¬ 128 ≤ k := by
          intro h5; simp [h5] at h2
        have hkm : k % 128 = k := by omega
        have hub : n + k % 128 * 2 ^ (7 * i) < 18446744073709551616 := hub0
        rw [hkm] at hub
        have hz : intBits .xor .i64 (((n + k % 128 * 2 ^ (7 * i)) / 2 : Nat) : Int) (IntKind.i64.wrap (0 - (((n + k % 128 * 2 ^ (7 * i)) % 2 : Nat) : Int))) = zig (n + k * 2 ^ (7 * i)) := by
          rw [hkm]; exact xorZig hub
        refine And.intro (by omega) (Exists.intro _ (And.intro (shr1 (n + k % 128 * 2 ^ (7 * i))) ?_))
        refine Exists.intro _ (And.intro (wrap64 (n := (((n + k % 128 * 2 ^ (7 * i)) / 2 : Nat) : Int)) (by omega)) ?_)
        refine Exists.intro _ (And.intro (and1 hub0) ?_)
        refine Exists.intro _ (And.intro (wrap64 (n := (((n + k % 128 * 2 ^ (7 * i)) % 2 : Nat) : Int)) (by omega)) ?_)
        refine Exists.intro _ (And.intro rfl ?_)
        refine Exists.intro _ (And.intro hz ?_)
        clear hz
        refine And.intro (fun b1 => ?_) (fun b1 => ?_)
        · have b1 : 0 < (i : Int) := of_decide_eq_true b1
          refine And.intro (fun z1 => ?_) (fun z1 => ?_)
          · have z1 := of_decide_eq_false z1
            refine And.intro (fun a9 => ?_) (fun a9 => ?_)
            · have a9 : (i : Int) = 9 := of_decide_eq_true a9
              refine And.intro (fun a1 => ?_) (fun a1 => ?_)
              · have a1 := of_decide_eq_false a1
                have hnb : ¬ ((0 < i ∧ l[i] = 0) ∨ (i = 9 ∧ 1 < l[i])) := by
                  rintro (h5 | h5)
                  · exact (fun h5 => z1 h5.2) h5
                  · exact a1 h5.2
                refine And.intro (fun g1 => ?_) (fun g1 => ?_)
                · refine And.intro (fun g2 => ?_) (fun g2 => ?_)
                  · refine VCall.mk [0, 1] (s_fail o l.length c bad xs te) ⟨rfl, rfl, rfl⟩ ?_
                    rintro _ _ ⟨rfl, rfl⟩
                    exact VRet.mk [0, 1, 2] (iv 0) [.cells (rdc 2 0 0 0 true) T_pack_Reader, .arr xs te, .arr [] T_uint8] ⟨rfl, rfl, rfl⟩ (.inr ⟨by
                        have h3 := hlast hk128
                        rw [if_neg hnb] at h3
                        simp only [rdN, h3]
                        rw [if_pos (.inr (of_decide_eq_true g2))], rfl, rfl⟩)
                  · have hw : IntKind.i64.wrap ((i : Int) + 1) = ((i + 1 : Nat) : Int) := wrap64 (by omega)
                    refine Exists.intro _ (And.intro hw ?_)
                    refine And.intro ⟨Int.natCast_nonneg _, by omega⟩ ?_
                    refine Exists.intro _ (And.intro rfl ?_)
                    refine VRet.mk [0, 1] (iv _) [.cells (rdc 1 (if c = ((i + 1 : Nat) : Int).toNat then o else o + ((i + 1 : Nat) : Int).toNat * 1) (l.length - (i + 1)) (c - (i + 1)) bad) T_pack_Reader, .arr xs te] ⟨rfl, rfl, rfl⟩ (.inl ⟨zig (n + k * 2 ^ (7 * i)), l.drop (i + 1), ?_, rfl, _, _, ?_, brow_drop hb (by omega) rfl, List.drop_suffix _ _⟩)
                    · have h3 := hlast hk128
                      rw [if_neg hnb] at h3
                      simp only [rdN, h3]
                      rw [if_neg]
                      simp only [not_or]
                      exact ⟨of_decide_eq_false g1, of_decide_eq_false g2⟩
                    · rw [List.length_drop]; rfl
                · refine VCall.mk [0, 1] (s_fail o l.length c bad xs te) ⟨rfl, rfl, rfl⟩ ?_
                  rintro _ _ ⟨rfl, rfl⟩
                  exact VRet.mk [0, 1, 2] (iv 0) [.cells (rdc 2 0 0 0 true) T_pack_Reader, .arr xs te, .arr [] T_uint8] ⟨rfl, rfl, rfl⟩ (.inr ⟨by
                      have h3 := hlast hk128
                      rw [if_neg hnb] at h3
                      simp only [rdN, h3]
                      rw [if_pos (.inl (of_decide_eq_true g1))], rfl, rfl⟩)
              · have a1 : decide (1 < l[i]) = true := a1
                have a1 := of_decide_eq_true a1
                refine VCall.mk [0, 1] (s_fail o l.length c bad xs te) ⟨rfl, rfl, rfl⟩ ?_
                rintro _ _ ⟨rfl, rfl⟩
                exact VRet.mk [0, 1, 2] (iv 0) [.cells (rdc 2 0 0 0 true) T_pack_Reader, .arr xs te, .arr [] T_uint8] ⟨rfl, rfl, rfl⟩ (.inr ⟨hfail ⟨hk128, .inr ⟨by omega, a1⟩⟩, rfl, rfl⟩)
            · have a9 : ¬ (i : Int) = 9 := of_decide_eq_false a9
              have hnb : ¬ ((0 < i ∧ l[i] = 0) ∨ (i = 9 ∧ 1 < l[i])) := by
                rintro (h5 | h5)
                · exact (fun h5 => z1 h5.2) h5
                · exact a9 (by omega)
              refine And.intro (fun g1 => ?_) (fun g1 => ?_)
              · refine And.intro (fun g2 => ?_) (fun g2 => ?_)
                · refine VCall.mk [0, 1] (s_fail o l.length c bad xs te) ⟨rfl, rfl, rfl⟩ ?_
                  rintro _ _ ⟨rfl, rfl⟩
                  exact VRet.mk [0, 1, 2] (iv 0) [.cells (rdc 2 0 0 0 true) T_pack_Reader, .arr xs te, .arr [] T_uint8] ⟨rfl, rfl, rfl⟩ (.inr ⟨by
                      have h3 := hlast hk128
                      rw [if_neg hnb] at h3
                      simp only [rdN, h3]
                      rw [if_pos (.inr (of_decide_eq_true g2))], rfl, rfl⟩)
                · have hw : IntKind.i64.wrap ((i : Int) + 1) = ((i + 1 : Nat) : Int) := wrap64 (by omega)
                  refine Exists.intro _ (And.intro hw ?_)
                  refine And.intro ⟨Int.natCast_nonneg _, by omega⟩ ?_
                  refine Exists.intro _ (And.intro rfl ?_)
                  refine VRet.mk [0, 1] (iv _) [.cells (rdc 1 (if c = ((i + 1 : Nat) : Int).toNat then o else o + ((i + 1 : Nat) : Int).toNat * 1) (l.length - (i + 1)) (c - (i + 1)) bad) T_pack_Reader, .arr xs te] ⟨rfl, rfl, rfl⟩ (.inl ⟨zig (n + k * 2 ^ (7 * i)), l.drop (i + 1), ?_, rfl, _, _, ?_, brow_drop hb (by omega) rfl, List.drop_suffix _ _⟩)
                  · have h3 := hlast hk128
                    rw [if_neg hnb] at h3
                    simp only [rdN, h3]
                    rw [if_neg]
                    simp only [not_or]
                    exact ⟨of_decide_eq_false g1, of_decide_eq_false g2⟩
                  · rw [List.length_drop]; rfl
              · refine VCall.mk [0, 1] (s_fail o l.length c bad xs te) ⟨rfl, rfl, rfl⟩ ?_
                rintro _ _ ⟨rfl, rfl⟩
                exact VRet.mk [0, 1, 2] (iv 0) [.cells (rdc 2 0 0 0 true) T_pack_Reader, .arr xs te, .arr [] T_uint8] ⟨rfl, rfl, rfl⟩ (.inr ⟨by
                    have h3 := hlast hk128
                    rw [if_neg hnb] at h3
                    simp only [rdN, h3]
                    rw [if_pos (.inl (of_decide_eq_true g1))], rfl, rfl⟩)
          · have z1 : decide (l[i] = 0) = true := z1
            have z1 := of_decide_eq_true z1
            refine VCall.mk [0, 1] (s_fail o l.length c bad xs te) ⟨rfl, rfl, rfl⟩ ?_
            rintro _ _ ⟨rfl, rfl⟩
            exact VRet.mk [0, 1, 2] (iv 0) [.cells (rdc 2 0 0 0 true) T_pack_Reader, .arr xs te, .arr [] T_uint8] ⟨rfl, rfl, rfl⟩ (.inr ⟨hfail ⟨hk128, .inl ⟨by omega, z1⟩⟩, rfl, rfl⟩)
        · have b1 : ¬ 0 < (i : Int) := of_decide_eq_false b1
          refine And.intro (fun a9 => ?_) (fun a9 => ?_)
          · have a9 : (i : Int) = 9 := of_decide_eq_true a9
            refine And.intro (fun a1 => ?_) (fun a1 => ?_)
            · have a1 := of_decide_eq_false a1
              have hnb : ¬ ((0 < i ∧ l[i] = 0) ∨ (i = 9 ∧ 1 < l[i])) := by
                rintro (h5 | h5)
                · exact (fun h5 => b1 (by omega)) h5
                · exact a1 h5.2
              refine And.intro (fun g1 => ?_) (fun g1 => ?_)
              · refine And.intro (fun g2 => ?_) (fun g2 => ?_)
                · refine VCall.mk [0, 1] (s_fail o l.length c bad xs te) ⟨rfl, rfl, rfl⟩ ?_
                  rintro _ _ ⟨rfl, rfl⟩
                  exact VRet.mk [0, 1, 2] (iv 0) [.cells (rdc 2 0 0 0 true) T_pack_Reader, .arr xs te, .arr [] T_uint8] ⟨rfl, rfl, rfl⟩ (.inr ⟨by
                      have h3 := hlast hk128
                      rw [if_neg hnb] at h3
                      simp only [rdN, h3]
                      rw [if_pos (.inr (of_decide_eq_true g2))], rfl, rfl⟩)
                · have hw : IntKind.i64.wrap ((i : Int) + 1) = ((i + 1 : Nat) : Int) := wrap64 (by omega)
                  refine Exists.intro _ (And.intro hw ?_)
                  refine And.intro ⟨Int.natCast_nonneg _, by omega⟩ ?_
                  refine Exists.intro _ (And.intro rfl ?_)
                  refine VRet.mk [0, 1] (iv _) [.cells (rdc 1 (if c = ((i + 1 : Nat) : Int).toNat then o else o + ((i + 1 : Nat) : Int).toNat * 1) (l.length - (i + 1)) (c - (i + 1)) bad) T_pack_Reader, .arr xs te] ⟨rfl, rfl, rfl⟩ (.inl ⟨zig (n + k * 2 ^ (7 * i)), l.drop (i + 1), ?_, rfl, _, _, ?_, brow_drop hb (by omega) rfl, List.drop_suffix _ _⟩)
                  · have h3 := hlast hk128
                    rw [if_neg hnb] at h3
                    simp only [rdN, h3]
                    rw [if_neg]
                    simp only [not_or]
                    exact ⟨of_decide_eq_false g1, of_decide_eq_false g2⟩
                  · rw [List.length_drop]; rfl
              · refine VCall.mk [0, 1] (s_fail o l.length c bad xs te) ⟨rfl, rfl, rfl⟩ ?_
                rintro _ _ ⟨rfl, rfl⟩
                exact VRet.mk [0, 1, 2] (iv 0) [.cells (rdc 2 0 0 0 true) T_pack_Reader, .arr xs te, .arr [] T_uint8] ⟨rfl, rfl, rfl⟩ (.inr ⟨by
                    have h3 := hlast hk128
                    rw [if_neg hnb] at h3
                    simp only [rdN, h3]
                    rw [if_pos (.inl (of_decide_eq_true g1))], rfl, rfl⟩)
            · have a1 : decide (1 < l[i]) = true := a1
              have a1 := of_decide_eq_true a1
              refine VCall.mk [0, 1] (s_fail o l.length c bad xs te) ⟨rfl, rfl, rfl⟩ ?_
              rintro _ _ ⟨rfl, rfl⟩
              exact VRet.mk [0, 1, 2] (iv 0) [.cells (rdc 2 0 0 0 true) T_pack_Reader, .arr xs te, .arr [] T_uint8] ⟨rfl, rfl, rfl⟩ (.inr ⟨hfail ⟨hk128, .inr ⟨by omega, a1⟩⟩, rfl, rfl⟩)
          · have a9 : ¬ (i : Int) = 9 := of_decide_eq_false a9
            have hnb : ¬ ((0 < i ∧ l[i] = 0) ∨ (i = 9 ∧ 1 < l[i])) := by
              rintro (h5 | h5)
              · exact (fun h5 => b1 (by omega)) h5
              · exact a9 (by omega)
            refine And.intro (fun g1 => ?_) (fun g1 => ?_)
            · refine And.intro (fun g2 => ?_) (fun g2 => ?_)
              · refine VCall.mk [0, 1] (s_fail o l.length c bad xs te) ⟨rfl, rfl, rfl⟩ ?_
                rintro _ _ ⟨rfl, rfl⟩
                exact VRet.mk [0, 1, 2] (iv 0) [.cells (rdc 2 0 0 0 true) T_pack_Reader, .arr xs te, .arr [] T_uint8] ⟨rfl, rfl, rfl⟩ (.inr ⟨by
                    have h3 := hlast hk128
                    rw [if_neg hnb] at h3
                    simp only [rdN, h3]
                    rw [if_pos (.inr (of_decide_eq_true g2))], rfl, rfl⟩)
              · have hw : IntKind.i64.wrap ((i : Int) + 1) = ((i + 1 : Nat) : Int) := wrap64 (by omega)
                refine Exists.intro _ (And.intro hw ?_)
                refine And.intro ⟨Int.natCast_nonneg _, by omega⟩ ?_
                refine Exists.intro _ (And.intro rfl ?_)
                refine VRet.mk [0, 1] (iv _) [.cells (rdc 1 (if c = ((i + 1 : Nat) : Int).toNat then o else o + ((i + 1 : Nat) : Int).toNat * 1) (l.length - (i + 1)) (c - (i + 1)) bad) T_pack_Reader, .arr xs te] ⟨rfl, rfl, rfl⟩ (.inl ⟨zig (n + k * 2 ^ (7 * i)), l.drop (i + 1), ?_, rfl, _, _, ?_, brow_drop hb (by omega) rfl, List.drop_suffix _ _⟩)
                · have h3 := hlast hk128
                  rw [if_neg hnb] at h3
                  simp only [rdN, h3]
                  rw [if_neg]
                  simp only [not_or]
                  exact ⟨of_decide_eq_false g1, of_decide_eq_false g2⟩
                · rw [List.length_drop]; rfl
            · refine VCall.mk [0, 1] (s_fail o l.length c bad xs te) ⟨rfl, rfl, rfl⟩ ?_
              rintro _ _ ⟨rfl, rfl⟩
              exact VRet.mk [0, 1, 2] (iv 0) [.cells (rdc 2 0 0 0 true) T_pack_Reader, .arr xs te, .arr [] T_uint8] ⟨rfl, rfl, rfl⟩ (.inr ⟨by
                  have h3 := hlast hk128
                  rw [if_neg hnb] at h3
                  simp only [rdN, h3]
                  rw [if_pos (.inl (of_decide_eq_true g1))], rfl, rfl⟩)
    · have h9 : i = 9 ∧ 2 ≤ k % 128 := by
        have hp : ∀ j, j ≤ 8 → 128 * 2 ^ (7 * j) ≤ 18446744073709551616 := by
          intro j hj
          match j, hj with | 0, _ | 1, _ | 2, _ | 3, _ | 4, _ | 5, _ | 6, _ | 7, _ | 8, _ => decide
        by_cases h8 : i ≤ 8
        · exfalso
          have h5 := hp i h8
          have h6 := Nat.mul_lt_mul_of_pos_right (show k % 128 < 128 by omega) (Nat.two_pow_pos (7 * i))
          omega
        · have : i = 9 := by omega
          subst this
          refine ⟨rfl, ?_⟩
          have : (2 : Nat) ^ (7 * 9) = 9223372036854775808 := by decide
          rw [this] at hfit
          omega
      refine Exists.intro _ (And.intro rfl ?_)
      refine Exists.intro _ (And.intro e2 ?_)
      clear e2
      refine And.intro (fun h2 => ?_) (fun h2 => ?_)
      · have hw : IntKind.i64.wrap ((i : Int) + 1) = ((i + 1 : Nat) : Int) := wrap64 (by omega)
        refine Exists.intro _ (And.intro hw ?_)
        exact Exists.intro ⟨i + 1, _⟩ (Exists.intro [0, 1] (And.intro ⟨hnext _ (fun h8 => by omega) (by by_cases h5 : 128 ≤ k; exact h5; simp [h5] at h2), hmu⟩ ⟨rfl, rfl, rfl⟩))
      · have hk128 : ¬ 128 ≤ k := by
          intro h5; simp [h5] at h2
        refine And.intro (by omega) (Exists.intro _ (And.intro rfl ?_))
        refine Exists.intro _ (And.intro rfl ?_)
        refine Exists.intro _ (And.intro rfl ?_)
        refine Exists.intro _ (And.intro rfl ?_)
        refine Exists.intro _ (And.intro rfl ?_)
        refine Exists.intro _ (And.intro rfl ?_)
        refine And.intro (fun b1 => ?_) (fun b1 => absurd (show ¬ 0 < (i : Int) from of_decide_eq_false b1) (by omega))
        refine And.intro (fun z1 => ?_) (fun z1 => ?_)
        · refine And.intro (fun a9 => ?_) (fun a9 => absurd (show ¬ (i : Int) = 9 from of_decide_eq_false a9) (by omega))
          refine And.intro (fun a1 => absurd (of_decide_eq_false a1) (by omega)) (fun a1 => ?_)
          refine VCall.mk [0, 1] (s_fail o l.length c bad xs te) ⟨rfl, rfl, rfl⟩ ?_
          rintro _ _ ⟨rfl, rfl⟩
          exact VRet.mk [0, 1, 2] (iv 0) [.cells (rdc 2 0 0 0 true) T_pack_Reader, .arr xs te, .arr [] T_uint8] ⟨rfl, rfl, rfl⟩ (.inr ⟨hfail ⟨hk128, .inr ⟨h9.1, by omega⟩⟩, rfl, rfl⟩)
        · have z1 : decide (l[i] = 0) = true := z1
          have z1 := of_decide_eq_true z1
          omega
  · have h := of_decide_eq_false h
    have hnone : rdN l least most = none := by
      have hi2 : i = mm.toNat := by simp only at h; omega
      have : rd l 0 0 = none := by
        rcases hinv with ⟨h9, n, _, _, hr⟩ | ⟨_, hr⟩
        · rw [hr, List.drop_eq_nil_of_le (by omega), rd_end]
        · exact hr
      simp [rdN, this]
    refine VCall.mk [0, 1] (s_fail o l.length c bad xs te) ⟨rfl, rfl, rfl⟩ ?_
    rintro _ _ ⟨rfl, rfl⟩
    exact VRet.mk [0, 1, 2] (iv 0) [.cells (rdc 2 0 0 0 true) T_pack_Reader, .arr xs te, .arr [] T_uint8] ⟨rfl, rfl, rfl⟩ (.inr ⟨hnone, rfl, rfl⟩)
end Go.Proofs

namespace Go.Proofs
open Go Go.V
set_option maxRecDepth 100000
set_option linter.unusedVariables false

theorem s_Read (l : List Int) (xs : List Value) (te : TypeId) (o c : Nat) (hb : Brow xs o c l) (hl : l.length ≤ 10000000) :
    Ctr Try.prog F_pack_Read [.sl 0 o l.length c] [.arr xs te] (fun x H => ∃ o' c' ys, x = .ptr 2 0 ∧ H = [.arr xs te, .arr ys T_uint8, .cells (rdc 1 o' l.length c' false) T_pack_Reader] ∧ Brow ys o' c' l) := by
  refine i_pack_Read.spec follows ?_
  refine VCall.mk [0] (s_bytes_Clone l xs te o c hb hl) ⟨rfl, rfl, rfl⟩ ?_
  rintro _ _ ⟨o', c', ys, rfl, rfl, hB⟩
  exact VRet.mk [0, 1, 2] (.ptr 2 0) [.arr xs te, .arr ys T_uint8, .cells (rdc 1 o' l.length c' false) T_pack_Reader] ⟨rfl, rfl, rfl⟩ ⟨o', c', ys, rfl, rfl, hB⟩

/-- Numbers of a clock. -/
def rdVs : Nat → List Int → Option ((Nat → Int) × List Int)
  | 0, l => some (fun _ => 0, l)
  | k + 1, l => match rdVs k l with
    | none => none
    | some (v, l') => match rdN l' 0 1099511627776 with
      | none => none
      | some (x, l'') => some (upv v k x, l'')
structure VX where
  i : Nat
  v : Nat → Int
  st : Option (List Int × Nat × Nat)
theorem s_vec_Get (l : List Int) (o c : Nat) (xs : List Value) (te : TypeId) (hb : Brow xs o c l) (hby : ∀ b ∈ l, 0 ≤ b ∧ b < 256) :
    Ctr Try.prog F_vec_Get [.ptr 0 0] [.cells (rdc 1 o l.length c false) T_pack_Reader, .arr xs te]
    (fun x H => (∃ v l', rdVs 7 l = some (v, l') ∧ x = .agg (vcells v) ∧ ∃ o' c', H = [.cells (rdc 1 o' l'.length c' false) T_pack_Reader, .arr xs te] ∧ Brow xs o' c' l' ∧ l' <:+ l) ∨
      (rdVs 7 l = none ∧ x = .agg (vcells fun _ => 0) ∧ H = [.cells (rdc 2 0 0 0 true) T_pack_Reader, .arr xs te, .arr [] T_uint8])) := by
  refine i_vec_Get.spec follows ?_
  refine VLoop.mk VX (fun x => [(0, .ptr 0 0), (2, .ptr 2 0), (3, .ptr 3 0), (5, iv x.i)])
    (fun x => match x.st with
      | some (l', o', c') => [.cells (rdc 1 o' l'.length c' false) T_pack_Reader, .arr xs te, .cells (vcells fun _ => 0) 33, .cells (vcells x.v) 33]
      | none => [.cells (rdc 4 0 0 0 true) T_pack_Reader, .arr xs te, .cells (vcells fun _ => 0) 33, .cells (vcells x.v) 33, .arr [] T_uint8])
    (fun x => x.i ≤ 7 ∧ match x.st with
      | some (l', o', c') => rdVs x.i l = some (x.v, l') ∧ Brow xs o' c' l' ∧ l' <:+ l
      | none => rdVs x.i l = none) (fun x => 7 - x.i) ⟨0, fun _ => 0, some (l, o, c)⟩ [0, 1, 2, 3] ⟨⟨Nat.zero_le _, rfl, hb, List.suffix_refl _⟩, rfl, rfl, rfl⟩ ?_
  rintro ⟨i, v, _ | ⟨l', o', c'⟩⟩ ⟨hi, hinv⟩ g
  · have hi : i ≤ 7 := hi
    have hinv : rdVs i l = none := hinv
    refine And.intro (fun h => ?_) (fun h => ?_)
    · have h := of_decide_eq_true h
      have hi7 : 0 ≤ (i : Int) ∧ (i : Int) < 7 := ⟨by omega, h⟩
      have hw : IntKind.i64.wrap ((i : Int) + 1) = ((i + 1 : Nat) : Int) := wrap64 (by omega)
      have hn : rdVs (i + 1) l = none := by rw [rdVs, hinv]
      refine VCall.mk [0, 4] (s_Num [] 0 1099511627776 0 0 true [] T_uint8 brow_nil (by simp)) ⟨rfl, rfl, rfl⟩ ?_
      rintro _ _ (⟨x, l2, hr, _⟩ | ⟨_, rfl, rfl⟩)
      · simp [rdN, rd] at hr
      refine And.intro hi7 (Exists.intro _ (And.intro (vcells_put v 0 hi7 []) ?_))
      refine Exists.intro _ (And.intro hw ?_)
      exact Exists.intro ⟨i + 1, upv v (i : Int).toNat 0, none⟩ (Exists.intro [0, 1, 2, 3, 5] (And.intro ⟨⟨by simp only at h ⊢; omega, hn⟩, by simp only at h ⊢; omega⟩ ⟨rfl, rfl, rfl⟩))
    · have h := of_decide_eq_false h
      have h7 : i = 7 := by simp only at h; omega
      subst h7
      refine VCall.mk [0, 4] (s_Bad 0 0 0 true [] T_uint8) ⟨rfl, rfl, rfl⟩ ?_
      rintro _ _ ⟨rfl, rfl⟩
      refine And.intro (fun _ => ?_) (fun h => absurd h (by decide))
      exact VRet.mk [0, 1, 4] (.agg (vcells fun _ => 0)) [.cells (rdc 2 0 0 0 true) T_pack_Reader, .arr xs te, .arr [] T_uint8] ⟨rfl, rfl, rfl⟩ (.inr ⟨hinv, rfl, rfl⟩)
  · have hi : i ≤ 7 := hi
    obtain ⟨hr, hB, hS⟩ : rdVs i l = some (v, l') ∧ Brow xs o' c' l' ∧ l' <:+ l := hinv
    refine And.intro (fun h => ?_) (fun h => ?_)
    · have h := of_decide_eq_true h
      have hi7 : 0 ≤ (i : Int) ∧ (i : Int) < 7 := ⟨by omega, h⟩
      have hw : IntKind.i64.wrap ((i : Int) + 1) = ((i + 1 : Nat) : Int) := wrap64 (by omega)
      refine VCall.mk [0, 1] (s_Num l' 0 1099511627776 o' c' false xs te hB (fun b hb => hby b (hS.subset hb))) ⟨rfl, rfl, rfl⟩ ?_
      rintro _ _ (⟨x, l2, hrN, rfl, o2, c2, rfl, hB2, hS2⟩ | ⟨hrN, rfl, rfl⟩)
      · have hn : rdVs (i + 1) l = some (upv v i x, l2) := by rw [rdVs, hr]; simp only [hrN]
        refine And.intro hi7 (Exists.intro _ (And.intro (vcells_put v x hi7 []) ?_))
        refine Exists.intro _ (And.intro hw ?_)
        exact Exists.intro ⟨i + 1, upv v (i : Int).toNat x, some (l2, o2, c2)⟩ (Exists.intro [0, 1, 2, 3] (And.intro ⟨⟨by simp only at h ⊢; omega, hn, hB2, hS2.trans hS⟩, by simp only at h ⊢; omega⟩ ⟨rfl, rfl, rfl⟩))
      · have hn : rdVs (i + 1) l = none := by rw [rdVs, hr]; simp only [hrN]
        refine And.intro hi7 (Exists.intro _ (And.intro (vcells_put v 0 hi7 []) ?_))
        refine Exists.intro _ (And.intro hw ?_)
        exact Exists.intro ⟨i + 1, upv v (i : Int).toNat 0, none⟩ (Exists.intro [0, 1, 2, 3, 4] (And.intro ⟨⟨by simp only at h ⊢; omega, hn⟩, by simp only at h ⊢; omega⟩ ⟨rfl, rfl, rfl⟩))
    · have h := of_decide_eq_false h
      have h7 : i = 7 := by simp only at h; omega
      subst h7
      refine VCall.mk [0, 1] (s_Bad o' l'.length c' false xs te) ⟨rfl, rfl, rfl⟩ ?_
      rintro _ _ ⟨rfl, rfl⟩
      refine And.intro (fun h => absurd h (by decide)) (fun _ => ?_)
      exact VRet.mk [0, 1] (.agg (vcells v)) [.cells (rdc 1 o' l'.length c' false) T_pack_Reader, .arr xs te] ⟨rfl, rfl, rfl⟩ (.inl ⟨v, l', hr, rfl, o', c', rfl, hB, hS⟩)
end Go.Proofs

namespace Go.Proofs
open Go Go.V
set_option maxRecDepth 100000
set_option linter.unusedVariables false

/-! ### Dots out of bytes -/
def rdDs (v : Nat → Int) : Nat → Int × Int → List Int → Option (List (Int × Int) × List Int)
  | 0, _, l => some ([], l)
  | k + 1, last, l => match rdN l 0 6 with
    | none => none
    | some (r, l1) => match rdN l1 1 1099511627776 with
      | none => none
      | some (n, l2) => if 0 ≤ cmpD last (r, n) ∨ n ≤ v r.toNat + 1 then none else
        match rdDs v k (r, n) l2 with
        | none => none
        | some (ds, l3) => some ((r, n) :: ds, l3)
def getD (l : List Int) : Option ((Nat → Int) × List (Int × Int) × List Int) :=
  match rdVs 7 l with
  | none => none
  | some (v, l1) => match rdN l1 0 1000 with
    | none => none
    | some (n, l2) => match rdDs v n.toNat (-1, 0) l2 with
      | none => none
      | some (ds, l3) => some (v, ds, l3)
theorem rdN_le {l : List Int} {a b x : Int} {l' : List Int} (h : rdN l a b = some (x, l')) : a ≤ x ∧ x ≤ b := by
  unfold rdN at h
  split at h
  · cases h
  · split at h
    · cases h
    · rename_i hn
      cases h
      omega
theorem rdVs_le : ∀ {k : Nat} {l : List Int} {v : Nat → Int} {l' : List Int}, rdVs k l = some (v, l') → ∀ r, 0 ≤ v r ∧ v r ≤ 1099511627776
  | 0, l, v, l', h, r => by simp only [rdVs, Option.some.injEq, Prod.mk.injEq] at h; rw [← h.1]; show (0 : Int) ≤ 0 ∧ (0 : Int) ≤ 1099511627776; omega
  | k + 1, l, v, l', h, r => by
    rw [rdVs] at h
    split at h
    · cases h
    · rename_i v1 l1 h1
      split at h
      · cases h
      · rename_i x l2 h2
        cases h
        have := rdVs_le h1 r
        have := rdN_le h2
        simp only [upv]; split <;> omega

structure RX where
  i : Nat
  ms : DM
  cm : Nat
  last : Int × Int
  l : List Int
  o : Nat
  c : Nat
  acc : List (Int × Int)
abbrev nilP : SV := .raw (.pointer none)
/-- The reader where no dots came out. -/
def Left2 (xs : List Value) (te : TypeId) (H : List SO) : Prop := (∃ o' n' c' b', H = [.cells (rdc 1 o' n' c' b') T_pack_Reader, .arr xs te]) ∨ H = [.cells (rdc 2 0 0 0 true) T_pack_Reader, .arr xs te, .arr [] T_uint8]

set_option maxHeartbeats 4000000 in
theorem s_Get (l : List Int) (o c : Nat) (xs : List Value) (te : TypeId) (hb : Brow xs o c l) (hby : ∀ b ∈ l, 0 ≤ b ∧ b < 256) :
    Ctr Try.prog F_dots_Get [.ptr 0 0] [.cells (rdc 1 o l.length c false) T_pack_Reader, .arr xs te]
    (fun x H => (∃ v ds l3, getD l = some (v, ds, l3) ∧ x = .ptr 3 0 ∧ ∃ o' c' ms cm, H = [.cells (rdc 1 o' l3.length c' false) T_pack_Reader, .arr xs te, dmap ms cm, .cells (dcs v 2) T_dots_Dots] ∧ Brow xs o' c' l3 ∧ l3 <:+ l ∧ MOK ms cm ∧ (ms.map (·.1)).Nodup ∧ ∀ d, inM ms d = true ↔ d ∈ ds) ∨
      (getD l = none ∧ x = nilP ∧ Left2 xs te H)) := by
  refine i_dots_Get.spec follows ?_
  refine VCall.mk [] s_dots_New ⟨rfl, rfl, rfl⟩ ?_
  rintro _ _ ⟨rfl, rfl⟩
  refine VCall.mk [0, 1] (s_vec_Get l o c xs te hb hby) ⟨rfl, rfl, rfl⟩ ?_
  rintro _ _ (⟨v, l1, hv, rfl, o1, c1, rfl, hB1, hS1⟩ | ⟨hv, rfl, rfl⟩)
  rotate_left 1
  · have hnone : getD l = none := by simp only [getD, hv]
    refine VCall.mk [0, 4] (s_Num [] 0 1000 0 0 true [] T_uint8 brow_nil (by simp)) ⟨rfl, rfl, rfl⟩ ?_
    rintro _ _ (⟨x, l2, hr, _⟩ | ⟨_, rfl, rfl⟩)
    · simp [rdN, rd] at hr
    refine VLoop.mk Nat (fun i => [(0, .ptr 0 0), (16, iv 0), (17, iv 0)]) (fun i => [.cells (rdc 2 0 0 0 true) T_pack_Reader, .arr xs te, .arr [] T_uint8]) (fun _ => True) (fun _ => 0) 0 [0, 1, 5] ⟨trivial, rfl, rfl, rfl⟩ ?_
    rintro i _ g
    refine And.intro (fun h => absurd (of_decide_eq_true h) (by decide)) (fun _ => ?_)
    refine VCall.mk [0, 2] (s_Bad 0 0 0 true [] T_uint8) ⟨rfl, rfl, rfl⟩ ?_
    rintro _ _ ⟨rfl, rfl⟩
    refine And.intro (fun _ => ?_) (fun h => absurd h (by decide))
    exact VRet.mk [0, 1, 2] nilP [.cells (rdc 2 0 0 0 true) T_pack_Reader, .arr xs te, .arr [] T_uint8] ⟨rfl, rfl, rfl⟩ (.inr ⟨hnone, rfl, .inr rfl⟩)
  have hvb := rdVs_le hv
  refine VCall.mk [0, 1] (s_Num l1 0 1000 o1 c1 false xs te hB1 (fun b hb => hby b (hS1.subset hb))) ⟨rfl, rfl, rfl⟩ ?_
  rintro _ _ (⟨n, l2, hn, rfl, o2, c2, rfl, hB2, hS2⟩ | ⟨hn, rfl, rfl⟩)
  rotate_left 1
  · have hnone : getD l = none := by simp only [getD, hv, hn]
    refine VLoop.mk Nat (fun i => [(0, .ptr 0 0), (16, iv 0), (17, iv 0)]) (fun i => [.cells (rdc 2 0 0 0 true) T_pack_Reader, .arr xs te, .arr [] T_uint8]) (fun _ => True) (fun _ => 0) 0 [0, 1, 4] ⟨trivial, rfl, rfl, rfl⟩ ?_
    rintro i _ g
    refine And.intro (fun h => absurd (of_decide_eq_true h) (by decide)) (fun _ => ?_)
    refine VCall.mk [0, 2] (s_Bad 0 0 0 true [] T_uint8) ⟨rfl, rfl, rfl⟩ ?_
    rintro _ _ ⟨rfl, rfl⟩
    refine And.intro (fun _ => ?_) (fun h => absurd h (by decide))
    exact VRet.mk [0, 1, 2] nilP [.cells (rdc 2 0 0 0 true) T_pack_Reader, .arr xs te, .arr [] T_uint8] ⟨rfl, rfl, rfl⟩ (.inr ⟨hnone, rfl, .inr rfl⟩)
  have hnb := rdN_le hn
  have hg0 : getD l = match rdDs v n.toNat (-1, 0) l2 with
      | none => none
      | some (ds, l3) => some (v, ds, l3) := by simp only [getD, hv, hn]
  refine VLoop.mk RX (fun x => [(0, .ptr 0 0), (3, .ptr 3 0), (5, .ptr 4 0), (16, iv n), (17, iv x.i)])
    (fun x => [.cells (rdc 1 x.o x.l.length x.c false) T_pack_Reader, .arr xs te, dmap x.ms x.cm, .cells (dcs v 2) T_dots_Dots, .cells (dcells x.last.1 x.last.2) 24])
    (fun x => (x.i : Int) ≤ n ∧ (getD l = match rdDs v (n.toNat - x.i) x.last x.l with
      | none => none
      | some (ds, l3) => some (v, x.acc ++ ds, l3)) ∧ MOK x.ms x.cm ∧ (x.ms.map (·.1)).Nodup ∧ (∀ d, inM x.ms d = true ↔ d ∈ x.acc) ∧ Brow xs x.o x.c x.l ∧ x.l <:+ l)
    (fun x => n.toNat - x.i) ⟨0, [], 0, (-1, 0), l2, o2, c2, []⟩ [0, 1, 2, 3, 4] ⟨⟨by simp only; omega, by simpa using hg0, MOK.nil 0, by simp, by simp [inM, get_nil], hB2, hS2.trans hS1⟩, rfl, rfl, rfl⟩ ?_
  clear hg0 hB2 hB1
  rintro ⟨i, ms, cm, ⟨la, lb⟩, m, o3, c3, acc⟩ ⟨hi, hG, hM, hK, hA, hB, hS⟩ g
  simp only at hi hG hM hK hA hB hS
  refine And.intro (fun h => ?_) (fun h => ?_)
  · have h := of_decide_eq_true h
    have hin : n.toNat - i = (n.toNat - (i + 1)) + 1 := by simp only at h; omega
    rw [hin, rdDs] at hG
    have hbm : ∀ b ∈ m, 0 ≤ b ∧ b < 256 := fun b hb => hby b (hS.subset hb)
    refine VCall.mk [0, 1] (s_Num m 0 6 o3 c3 false xs te hB hbm) ⟨rfl, rfl, rfl⟩ ?_
    rintro _ _ (⟨r, l4, hr, rfl, o4, c4, rfl, hB4, hS4⟩ | ⟨hr, rfl, rfl⟩)
    rotate_left 1
    · rw [hr] at hG
      refine VCall.mk [0, 5] (s_Num [] 1 1099511627776 0 0 true [] T_uint8 brow_nil (by simp)) ⟨rfl, rfl, rfl⟩ ?_
      rintro _ _ (⟨x, l2, hr2, _⟩ | ⟨_, rfl, rfl⟩)
      · simp [rdN, rd] at hr2
      refine VCall.mk [0, 7] (s_Bad 0 0 0 true [] T_uint8) ⟨rfl, rfl, rfl⟩ ?_
      rintro _ _ ⟨rfl, rfl⟩
      refine And.intro (fun h => Bool.noConfusion h) (fun _ => ?_)
      refine VRet.mk [0, 1, 7] nilP [.cells (rdc 2 0 0 0 true) T_pack_Reader, .arr xs te, .arr [] T_uint8] ⟨rfl, rfl, rfl⟩ (.inr ⟨hG, rfl, .inr rfl⟩)
    rw [hr] at hG
    have hrb := rdN_le hr
    refine VCall.mk [0, 1] (s_Num l4 1 1099511627776 o4 c4 false xs te hB4 (fun b hb => hbm b (hS4.subset hb))) ⟨rfl, rfl, rfl⟩ ?_
    rintro _ _ (⟨d2, l5, hr5, rfl, o5, c5, rfl, hB5, hS5⟩ | ⟨hr5, rfl, rfl⟩)
    rotate_left 1
    · simp only [hr5] at hG
      refine VCall.mk [0, 6] (s_Bad 0 0 0 true [] T_uint8) ⟨rfl, rfl, rfl⟩ ?_
      rintro _ _ ⟨rfl, rfl⟩
      refine And.intro (fun h => Bool.noConfusion h) (fun _ => ?_)
      refine VRet.mk [0, 1, 6] nilP [.cells (rdc 2 0 0 0 true) T_pack_Reader, .arr xs te, .arr [] T_uint8] ⟨rfl, rfl, rfl⟩ (.inr ⟨hG, rfl, .inr rfl⟩)
    simp only [hr5] at hG
    have hdb := rdN_le hr5
    refine VCall.mk [0, 1] (s_Bad o5 l5.length c5 false xs te) ⟨rfl, rfl, rfl⟩ ?_
    rintro _ _ ⟨rfl, rfl⟩
    refine And.intro (fun _ => ?_) (fun h => Bool.noConfusion h)
    refine VCall.mk [] (s_dots_Order la lb r d2) ⟨rfl, rfl, rfl⟩ ?_
    rintro _ _ ⟨rfl, rfl⟩
    refine And.intro (fun g1 => ?_) (fun g1 => ?_)
    rotate_left 1
    · have g1 : decide (0 ≤ cmpD (la, lb) (r, d2)) = true := g1
      rw [if_pos (.inl (of_decide_eq_true g1))] at hG
      exact VRet.mk [0, 1] nilP [.cells (rdc 1 o5 l5.length c5 false) T_pack_Reader, .arr xs te] ⟨rfl, rfl, rfl⟩ (.inr ⟨hG, rfl, .inl ⟨_, _, _, _, rfl⟩⟩)
    have g1 := of_decide_eq_false g1
    have hvr := hvb r.toNat
    refine And.intro ⟨hrb.1, by omega⟩ (Exists.intro _ (And.intro (vcells_get' v ⟨hrb.1, by omega⟩ [.mp 2]) ?_))
    refine Exists.intro _ (And.intro (wrap64 (n := v r.toNat + 1) (by omega)) ?_)
    refine And.intro (fun g2 => ?_) (fun g2 => ?_)
    · rw [if_pos (.inr (of_decide_eq_true g2))] at hG
      exact VRet.mk [0, 1] nilP [.cells (rdc 1 o5 l5.length c5 false) T_pack_Reader, .arr xs te] ⟨rfl, rfl, rfl⟩ (.inr ⟨hG, rfl, .inl ⟨_, _, _, _, rfl⟩⟩)
    have g2 := of_decide_eq_false g2
    rw [if_neg (fun h => h.elim g1 g2)] at hG
    refine Exists.intro _ (Exists.intro _ (And.intro (update_is (encv := encU) kD ms cm (r, d2) ()) ?_))
    have hw : IntKind.i64.wrap ((i : Int) + 1) = ((i + 1 : Nat) : Int) := wrap64 (by simp only at h; omega)
    refine Exists.intro _ (And.intro hw ?_)
    refine Exists.intro ⟨i + 1, MP.put ms (r, d2) () cm, if (MP.get ms (r, d2)).isSome then cm else cm + 1, (r, d2), l5, o5, c5, acc ++ [(r, d2)]⟩ (Exists.intro [0, 1, 2, 3, 4] (And.intro ⟨⟨by simp only at h ⊢; omega, ?_, hM.put _ _, nodup_put hK _ _ _, fun d => ?_, hB5, (hS5.trans hS4).trans hS⟩, by simp only at h ⊢; omega⟩ ⟨rfl, rfl, rfl⟩))
    · simp only
      rw [hG]
      cases rdDs v (n.toNat - (i + 1)) (r, d2) l5 with
      | none => rfl
      | some q => simp
    · simp only
      rw [inM_put, hA, List.mem_append, List.mem_singleton]
      constructor
      · rintro (h | h)
        · exact .inr h
        · exact .inl h
      · rintro (h | h)
        · exact .inr h
        · exact .inl h
  · have h := of_decide_eq_false h
    have h0 : n.toNat - i = 0 := by simp only at h; omega
    rw [h0, rdDs] at hG
    refine VCall.mk [0, 1] (s_Bad o3 m.length c3 false xs te) ⟨rfl, rfl, rfl⟩ ?_
    rintro _ _ ⟨rfl, rfl⟩
    refine And.intro (fun h => absurd h (by decide)) (fun _ => ?_)
    exact VRet.mk [0, 1, 2, 3] (.ptr 3 0) [.cells (rdc 1 o3 m.length c3 false) T_pack_Reader, .arr xs te, dmap ms cm, .cells (dcs v 2) T_dots_Dots] ⟨rfl, rfl, rfl⟩ (.inl ⟨v, acc ++ [], m, hG, rfl, o3, c3, ms, cm, rfl, hB, hS, hM, hK, fun d => by rw [hA]; simp⟩)
end Go.Proofs

