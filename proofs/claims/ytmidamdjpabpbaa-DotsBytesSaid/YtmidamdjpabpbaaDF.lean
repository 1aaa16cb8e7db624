/- Part of the proof that the statement named in the last file holds: lemmas of the prover's own. No conditions. -/
import Derived.Test.YtmidamdjpabpbaaDE
import Derived.Test.YtmidamdjpabpbaaDD
namespace Go.Proofs
open Go Go.V
set_option maxRecDepth 100000
set_option linter.unusedVariables false

/-! ### What is written is read again -/
theorem rd_numB : ∀ (k i u a : Nat) (l : List Int), i + k ≤ 8 → u < 128 ^ (k + 1) → (0 < i → 0 < u) → rd (numB u ++ l) i a = some (a + u * 2 ^ (7 * i), l)
  | 0, i, u, a, l, hi, hu, h0 => by
    have hu : u < 128 := by simpa using hu
    rw [numB_lt hu, List.singleton_append, rd, if_neg (by omega), if_neg (by omega), if_neg (by omega)]
    simp
  | k + 1, i, u, a, l, hi, hu, h0 => by
    by_cases h1 : u < 128
    · rw [numB_lt h1, List.singleton_append, rd, if_neg (by omega), if_neg (by omega), if_neg (by omega)]
      simp
    · have hq : u / 128 < 128 ^ (k + 1) := by rw [Nat.div_lt_iff_lt_mul (by omega)]; rw [Nat.pow_succ] at hu; omega
      rw [numB_ge h1, List.cons_append, rd, if_neg (by omega), if_pos (by omega), rd_numB k (i + 1) (u / 128) _ l (by omega) hq (by omega)]
      have e1 : ((u % 128 + 128 : Nat) : Int).toNat % 128 = u % 128 := by omega
      have e2 : (2 : Nat) ^ (7 * (i + 1)) = 128 * 2 ^ (7 * i) := by rw [show 7 * (i + 1) = 7 * i + 7 by omega, Nat.pow_add]; omega
      have e3 : u / 128 * (128 * 2 ^ (7 * i)) = (u / 128 * 128) * 2 ^ (7 * i) := by rw [Nat.mul_assoc]
      have e4 : u * 2 ^ (7 * i) = u % 128 * 2 ^ (7 * i) + (u / 128 * 128) * 2 ^ (7 * i) := by
        rw [← Nat.add_mul]; congr 1; omega
      rw [e1, e2, e3, e4, Nat.add_assoc]
theorem rdN_numB {n a b : Int} (l : List Int) (h : 0 ≤ n ∧ n < 4611686018427387904) (hab : a ≤ n ∧ n ≤ b) : rdN (numB (2 * n.toNat) ++ l) a b = some (n, l) := by
  have h1 := rd_numB 8 0 (2 * n.toNat) 0 l (by omega) (by
    have : (128 : Nat) ^ (8 + 1) = 9223372036854775808 := by decide
    rw [this]; omega) (by omega)
  have hz : zig (2 * n.toNat) = n := by
    unfold zig
    rw [if_neg (by omega)]; omega
  simp only [rdN, h1, Nat.mul_zero, Nat.pow_zero, Nat.mul_one, Nat.zero_add, hz]
  rw [if_neg (by omega)]
theorem rdVs_vecB {v : Nat → Int} (hv : ∀ r, r < 7 → 0 ≤ v r ∧ v r ≤ 1099511627776) : ∀ (k : Nat) (l : List Int), k ≤ 7 → ∃ v', rdVs k (vecB v k ++ l) = some (v', l) ∧ ∀ i, i < k → v' i = v i
  | 0, l, _ => ⟨_, rfl, fun i hi => by omega⟩
  | k + 1, l, hk => by
    have hb := hv k (by omega)
    obtain ⟨v', h1, h2⟩ := rdVs_vecB hv k (numB (2 * (v k).toNat) ++ l) (by omega)
    refine ⟨upv v' k (v k), ?_, fun i hi => ?_⟩
    · rw [rdVs, vecB, List.append_assoc, h1]
      simp only [rdN_numB l (n := v k) (a := 0) (b := 1099511627776) (by omega) hb]
    · simp only [upv]
      by_cases hik : i = k
      · rw [if_pos hik, hik]
      · rw [if_neg hik]; exact h2 i (by omega)
theorem rdDs_rowB {v : Nat → Int} : ∀ (ds : List (Int × Int)) (last : Int × Int) (l : List Int), (last :: ds).Pairwise (fun x y => cmpD x y < 0) → (∀ x ∈ ds, isDot x.1 x.2 = true ∧ v x.1.toNat + 1 < x.2) → rdDs v ds.length last (rowB ds ++ l) = some (ds, l)
  | [], _, l, _, _ => by simp [rdDs, rowB]
  | d :: ds, last, l, hp, hd => by
    have hdd := isDot_iff.1 (hd d (by simp)).1
    have hg := (hd d (by simp)).2
    have hp' := List.pairwise_cons.1 hp
    have hlt : cmpD last (d.1, d.2) < 0 := hp'.1 d (by simp)
    have ih := rdDs_rowB ds d l hp'.2 (fun x hx => hd x (by simp [hx]))
    have e : rowB (d :: ds) ++ l = numB (2 * d.1.toNat) ++ (numB (2 * d.2.toNat) ++ (rowB ds ++ l)) := by
      simp only [rowB, List.flatMap_cons, List.append_assoc]
    rw [e, List.length_cons, rdDs, rdN_numB _ (by omega) (by omega)]
    simp only [rdN_numB (n := d.2) (a := 1) (b := 1099511627776) (rowB ds ++ l) (by omega) (by omega)]
    rw [if_neg (by omega)]
    simp only [ih]
theorem getD_putB {v : Nat → Int} {ds : List (Int × Int)} (hv : ∀ r, r < 7 → 0 ≤ v r ∧ v r ≤ 1099511627776) (hs : ds.Pairwise (fun x y => cmpD x y < 0)) (hd : ∀ x ∈ ds, isDot x.1 x.2 = true ∧ v x.1.toNat + 1 < x.2) (hl : ds.length ≤ 1000) (l : List Int) :
    ∃ v', getD (putB v ds ++ l) = some (v', ds, l) ∧ ∀ i, i < 7 → v' i = v i := by
  obtain ⟨v', h1, h2⟩ := rdVs_vecB hv 7 (numB (2 * ds.length) ++ (rowB ds ++ l)) (Nat.le_refl _)
  refine ⟨v', ?_, h2⟩
  have e : putB v ds ++ l = vecB v 7 ++ (numB (2 * ds.length) ++ (rowB ds ++ l)) := by simp only [putB, List.append_assoc]
  have h3 := rdN_numB (n := (ds.length : Int)) (a := 0) (b := 1000) (rowB ds ++ l) (by omega) (by omega)
  rw [Int.toNat_natCast] at h3
  have h4 := rdDs_rowB (v := v') ds (-1, 0) l (List.pairwise_cons.2 ⟨fun x hx => by
      have := isDot_iff.1 (hd x hx).1
      rw [cmpD_lt]; left; simp only; omega, hs⟩) (fun x hx => ⟨(hd x hx).1, by
      have := isDot_iff.1 (hd x hx).1
      rw [h2 _ (by omega)]; exact (hd x hx).2⟩)
  rw [e]
  simp only [getD, h1, h3, Int.toNat_natCast, h4]
theorem Rises.below {l : List (Int × Int)} (h : Rises l) : l.Pairwise (fun x y => cmpD x y < 0) := by
  refine List.Pairwise.imp ?_ h
  intro a b hab
  rw [lessD_iff] at hab; rw [cmpD_lt]; exact hab
end Go.Proofs

namespace Go.Proofs
open Go Go.V
set_option maxRecDepth 100000
set_option linter.unusedVariables false

/-! ### From a block that is read alone -/
theorem s_bytes_CloneRo (l : List Int) (xs : List Value) (te : TypeId) (o c : Nat) (h0 : 0 < l.length → o + l.length ≤ xs.length) (h1 : (xs.drop o).take l.length = l.map (Value.int .u8)) (hl : l.length ≤ 10000000) :
    Ctr Try.prog F_bytes_Clone [.sl 0 o l.length c] [.ro xs te] (fun x H => ∃ o' c' ys, x = .sl 1 o' l.length c' ∧ H = [.ro xs te, .arr ys T_uint8] ∧ Brow ys o' c' l) := by
  refine i_bytes_Clone.spec follows ?_
  have h1' : (xs.drop o).take (l.length * 1) = l.map (Value.int .u8) := by rw [Nat.mul_one]; exact h1
  refine fun b hbn => ?_
  refine And.intro (fun h => ?_) (fun _ => ?_)
  · have hx : xs = [] := by
      refine Classical.byContradiction fun hn => ?_
      rw [hbn hn] at h; cases h
    have hl0 : l = [] := by
      subst hx
      refine Classical.byContradiction fun hn => ?_
      have := h0 (List.length_pos_iff.2 hn)
      have h3 := List.length_pos_iff.2 hn
      simp only [List.length_nil] at this; omega
    refine VRet.nil T_uint8 [0] [] ⟨rfl, rfl⟩ (VRet.mk [0, 1] (.sl 1 0 0 0) [.ro xs te, .arr [] T_uint8] ⟨rfl, rfl, rfl⟩ ⟨0, 0, [], ?_, rfl, ?_⟩)
    · rw [hl0]; rfl
    · rw [hl0]; exact brow_nil
  refine And.intro ⟨⟨Nat.zero_le _, by simp, rfl⟩, ⟨?_, ?_⟩, by omega⟩ ?_
  · rw [h1']; simp
  · rw [h1']; exact cellsOK_ints l
  intro zs' o' c' hz
  refine VRet.mk [0, 2] (.sl 1 o' (0 + l.length) c') [.ro xs te, .arr zs' T_uint8] ⟨rfl, rfl, rfl⟩ ⟨o', c', zs', ?_, rfl, ?_, ?_, ?_⟩
  · show SV.sl 1 o' (0 + l.length) c' = _; rw [Nat.zero_add]
  · omega
  · omega
  · have := hz.2.2
    rw [h1'] at this
    simpa using this
theorem s_ReadRo (l : List Int) (xs : List Value) (te : TypeId) (o c : Nat) (h0 : 0 < l.length → o + l.length ≤ xs.length) (h1 : (xs.drop o).take l.length = l.map (Value.int .u8)) (hl : l.length ≤ 10000000) :
    Ctr Try.prog F_pack_Read [.sl 0 o l.length c] [.ro xs te] (fun x H => ∃ o' c' ys, x = .ptr 2 0 ∧ H = [.ro xs te, .arr ys T_uint8, .cells (rdc 1 o' l.length c' false) T_pack_Reader] ∧ Brow ys o' c' l) := by
  refine i_pack_Read.spec follows ?_
  refine VCall.mk [0] (s_bytes_CloneRo l xs te o c h0 h1 hl) ⟨rfl, rfl, rfl⟩ ?_
  rintro _ _ ⟨o', c', ys, rfl, rfl, hB⟩
  exact VRet.mk [0, 1, 2] (.ptr 2 0) [.ro xs te, .arr ys T_uint8, .cells (rdc 1 o' l.length c' false) T_pack_Reader] ⟨rfl, rfl, rfl⟩ ⟨o', c', ys, rfl, rfl, hB⟩
end Go.Proofs

namespace Go.Proofs
open Go Go.V
set_option maxRecDepth 100000
set_option linter.unusedVariables false

/-! ### The document's own reader -/
abbrev rrc (k o n c : Nat) (at' : Int) (bad : Bool) : List SV := [.sl k o n c, iv at', bv bad]
def RawInv (L : List Int) (at0 : Nat) (x : NX) : Prop := x.i ≤ 10 ∧ ((x.i ≤ 9 ∧ ∃ n : Nat, x.u = n ∧ n < 2 ^ (7 * x.i) ∧ rd (L.drop at0) 0 0 = rd (L.drop (at0 + x.i)) x.i n) ∨ (x.i = 10 ∧ rd (L.drop at0) 0 0 = none))
theorem s_ref_End (o n c at0 : Nat) (bad : Bool) (xs : List Value) (te : TypeId) : Ctr Try.prog F_rostrumref1_Reader_End [.ptr 0 0] [.cells (rrc 1 o n c at0 bad) T_rostrumref1_Reader, .ro xs te]
    (fun x H => x = bv (!bad && decide (at0 = n)) ∧ H = [.cells (rrc 1 o n c at0 bad) T_rostrumref1_Reader, .ro xs te]) := by
  refine i_rostrumref1_Reader_End.spec follows ?_
  refine And.intro (fun h => ?_) (fun h => ?_)
  · have h : (!bad) = true := h
    refine VRet.mk [0, 1] (bv _) [.cells (rrc 1 o n c at0 bad) T_rostrumref1_Reader, .ro xs te] ⟨rfl, rfl, rfl⟩ ⟨?_, rfl⟩
    show bv _ = bv _
    rw [h]; simp only [Bool.true_and]
    congr 2; simp [Int.natCast_inj]
  · have h : (!bad) = false := h
    refine VRet.mk [0, 1] (bv false) [.cells (rrc 1 o n c at0 bad) T_rostrumref1_Reader, .ro xs te] ⟨rfl, rfl, rfl⟩ ⟨?_, rfl⟩
    show bv _ = bv _
    rw [h]; simp
theorem fitOK {x i : Nat} (hi : i ≤ 9) (hx : x < 128) (h9 : i = 9 → x ≤ 1) : x * 2 ^ (7 * i) < 18446744073709551616 := by
  by_cases h : i = 9
  · subst h
    have e : (2 : Nat) ^ (7 * 9) = 9223372036854775808 := by decide
    rw [e]
    have := h9 rfl
    omega
  · have hp : ∀ j, j ≤ 8 → 128 * 2 ^ (7 * j) ≤ 18446744073709551616 := by
      intro j hj
      match j, hj with | 0, _ | 1, _ | 2, _ | 3, _ | 4, _ | 5, _ | 6, _ | 7, _ | 8, _ => decide
    have h5 := hp i (by omega)
    have h6 := Nat.mul_lt_mul_of_pos_right hx (Nat.two_pow_pos (7 * i))
    omega
set_option maxHeartbeats 4000000 in
theorem s_raw (L : List Int) (o c at0 : Nat) (bad : Bool) (xs : List Value) (te : TypeId) (hL : 0 < L.length → o + L.length ≤ xs.length) (hx : (xs.drop o).take L.length = L.map (Value.int .u8)) (hby : ∀ b ∈ L, 0 ≤ b ∧ b < 256) (hat : at0 ≤ L.length) (hlen : L.length ≤ 1000000) :
    Ctr Try.prog F_rostrumref1_Reader_raw [.ptr 0 0] [.cells (rrc 1 o L.length c at0 bad) T_rostrumref1_Reader, .ro xs te]
    (fun x H => ∃ u ok at1, x = .tup [.raw (.int .u64 u), bv ok] ∧ H = [.cells (rrc 1 o L.length c at1 bad) T_rostrumref1_Reader, .ro xs te] ∧
      ((ok = false ∧ rd (L.drop at0) 0 0 = none ∧ ∃ n : Nat, u = n ∧ n < 18446744073709551616) ∨ (ok = true ∧ ∃ (n k : Nat), u = n ∧ n < 18446744073709551616 ∧ at1 = (k : Int) ∧ k ≤ L.length ∧ rd (L.drop at0) 0 0 = some (n, L.drop k)))) := by
  refine i_rostrumref1_Reader_raw.spec follows ?_
  refine VLoop.mk NX (fun x => [(0, .ptr 0 0), (4, .raw (.int .u64 x.u)), (5, iv x.i)]) (fun x => [.cells (rrc 1 o L.length c at0 bad) T_rostrumref1_Reader, .ro xs te])
    (RawInv L at0) (fun x => 10 - x.i) ⟨0, 0⟩ [0, 1] ⟨⟨Nat.zero_le _, .inl ⟨by simp, 0, rfl, by simp, by simp⟩⟩, rfl, rfl, rfl⟩ ?_
  rintro ⟨i, u⟩ ⟨hi, hinv⟩ g
  simp only at hi hinv
  refine And.intro (fun h => ?_) (fun h => ?_)
  · have h : (i : Int) < 10 := of_decide_eq_true h
    obtain ⟨hi9, n, hun, hnn, hr0⟩ : i ≤ 9 ∧ ∃ n : Nat, u = n ∧ n < 2 ^ (7 * i) ∧ rd (L.drop at0) 0 0 = rd (L.drop (at0 + i)) i n := by
      rcases hinv with h | ⟨h, _⟩
      · exact h
      · omega
    refine Exists.intro _ (And.intro (wrap64 (n := (at0 : Int) + (i : Int)) (by omega)) ?_)
    refine And.intro (fun g1 => ?_) (fun g1 => ?_)
    · have g1 : (at0 : Int) + (i : Int) < (L.length : Int) := of_decide_eq_true g1
      have hil : at0 + i < L.length := by omega
      have hcap := hL (by omega)
      rw [List.drop_eq_getElem_cons hil] at hr0
      have hbb := hby L[at0 + i] (List.getElem_mem hil)
      obtain ⟨k, hk⟩ : ∃ k : Nat, L[at0 + i] = k := ⟨L[at0 + i].toNat, by omega⟩
      have hk256 : k < 256 := by omega
      have hget : xs[o + ((at0 : Int) + (i : Int)).toNat * 1]? = some (.int .u8 L[at0 + i]) := by
        have h1 : ((xs.drop o).take L.length)[at0 + i]? = (L.map (Value.int .u8))[at0 + i]? := by rw [hx]
        rw [List.getElem?_take_of_lt hil, List.getElem?_drop, List.getElem?_map, List.getElem?_eq_getElem hil] at h1
        rw [show ((at0 : Int) + (i : Int)).toNat * 1 = at0 + i by omega]; exact h1
      refine Exists.intro _ (And.intro (wrap64 (n := (at0 : Int) + (i : Int)) (by omega)) ?_)
      refine And.intro ⟨by omega, g1, by omega⟩ (Exists.intro _ (And.intro hget ?_))
      refine And.intro (fun g2 => ?_) (fun g2 => ?_)
      · have g2 : (i : Int) = 9 := of_decide_eq_true g2
        refine And.intro (fun g5 => ?_) (fun g5 => ?_)
        · have g5 : 1 < L[at0 + i] := of_decide_eq_true g5
          refine VRet.mk [0, 1] (.tup [.raw (.int .u64 0), bv false]) [.cells (rrc 1 o L.length c at0 bad) T_rostrumref1_Reader, .ro xs te] ⟨rfl, rfl, rfl⟩ ⟨0, false, at0, rfl, rfl, .inl ⟨rfl, ?_, 0, rfl, by omega⟩⟩
          rw [hr0, rd, if_neg (by omega)]
          by_cases h128 : 128 ≤ L[at0 + i]
          · rw [if_pos h128, show i + 1 = 10 by omega, rd_ten]
          · rw [if_neg h128, if_pos (by right; omega)]
        · have g5 : ¬ 1 < L[at0 + i] := of_decide_eq_false g5
          have hfit : k % 128 * 2 ^ (7 * i) < 18446744073709551616 := fitOK hi9 (by omega) (by omega)
          have hub := orBound hi9 hnn hfit
          have e1 : intBits .and .u8 L[at0 + i] 127 = ((k % 128 : Nat) : Int) := by rw [hk]; exact and127 hk256
          refine Exists.intro _ (And.intro e1 ?_)
          clear e1
          refine Exists.intro _ (And.intro (w64u (n := ((k % 128 : Nat) : Int)) (by omega)) ?_)
          have e3 : IntKind.i64.wrap (7 * (i : Int)) = ((7 * i : Nat) : Int) := by rw [wrap64 (by omega)]; omega
          refine Exists.intro _ (And.intro e3 ?_)
          clear e3
          refine Exists.intro _ (And.intro (w64u (n := ((7 * i : Nat) : Int)) (by omega)) ?_)
          refine And.intro (Int.natCast_nonneg _) (Exists.intro _ (And.intro (shl7 (k % 128) hi9) ?_))
          have hor : intBits .or .u64 u (((k % 128 * 2 ^ (7 * i)) % 18446744073709551616 : Nat) : Int) = ((n + k % 128 * 2 ^ (7 * i) : Nat) : Int) := by rw [hun, Nat.mod_eq_of_lt hfit]; exact orAdd hi9 hnn hfit
          refine Exists.intro _ (And.intro hor ?_)
          clear hor
          refine And.intro (fun g3 => ?_) (fun g3 => ?_)
          · have g3 : L[at0 + i] < 128 := of_decide_eq_true g3
            have hkm : k % 128 = k := by omega
            refine Exists.intro _ (And.intro (wrap64 (n := (at0 : Int) + (i : Int)) (by omega)) ?_)
            refine Exists.intro _ (And.intro (wrap64 (n := (at0 : Int) + (i : Int) + 1) (by omega)) ?_)
            have hlast : rd (L.drop at0) 0 0 = if (0 < i ∧ L[at0 + i] = 0) ∨ (i = 9 ∧ 1 < L[at0 + i]) then none else some (n + k % 128 * 2 ^ (7 * i), L.drop (at0 + i + 1)) := by
              rw [hr0, rd, if_neg (by omega), if_neg (by omega), hkm]
              have : L[at0 + i].toNat = k := by omega
              rw [this]
            refine And.intro (fun g4 => ?_) (fun g4 => ?_)
            · have g4 : ¬ 0 < L[at0 + i] := of_decide_eq_false g4
              refine VRet.mk [0, 1] (.tup [.raw (.int .u64 ((n + k % 128 * 2 ^ (7 * i) : Nat) : Int)), bv (decide ((i : Int) = 0))]) [.cells (rrc 1 o L.length c ((at0 : Int) + i + 1) bad) T_rostrumref1_Reader, .ro xs te] ⟨rfl, rfl, rfl⟩ ⟨_, _, _, rfl, rfl, ?_⟩
              by_cases h0 : i = 0
              · right
                refine ⟨by simp [h0], _, at0 + i + 1, rfl, hub, by omega, by omega, ?_⟩
                rw [hlast, if_neg (by omega)]
              · left
                refine ⟨by simp; omega, ?_, _, rfl, hub⟩
                rw [hlast, if_pos (by left; omega)]
            · have g4 : decide (0 < L[at0 + i]) = true := g4
              have g4 := of_decide_eq_true g4
              refine VRet.mk [0, 1] (.tup [.raw (.int .u64 ((n + k % 128 * 2 ^ (7 * i) : Nat) : Int)), bv true]) [.cells (rrc 1 o L.length c ((at0 : Int) + i + 1) bad) T_rostrumref1_Reader, .ro xs te] ⟨rfl, rfl, rfl⟩ ⟨_, _, _, rfl, rfl, .inr ⟨rfl, _, at0 + i + 1, rfl, hub, by omega, by omega, ?_⟩⟩
              rw [hlast, if_neg (by omega)]
          · have g3 : ¬ L[at0 + i] < 128 := of_decide_eq_false g3
            have hw : IntKind.i64.wrap ((i : Int) + 1) = ((i + 1 : Nat) : Int) := wrap64 (by omega)
            refine Exists.intro _ (And.intro hw ?_)
            refine Exists.intro ⟨i + 1, ((n + k % 128 * 2 ^ (7 * i) : Nat) : Int)⟩ (Exists.intro [0, 1] (And.intro ⟨⟨by simp only; omega, .inl ⟨by simp only; omega, _, rfl, ?_, ?_⟩⟩, by simp only; omega⟩ ⟨rfl, rfl, rfl⟩))
            · have h128 : k % 128 + 1 ≤ 128 := by omega
              have := Nat.mul_le_mul_right (2 ^ (7 * i)) h128
              simp only
              rw [show 7 * (i + 1) = 7 * i + 7 by omega, Nat.pow_add]
              rw [Nat.add_mul, Nat.one_mul] at this
              omega
            · simp only
              rw [hr0, rd, if_neg (by omega), if_pos (by omega)]
              have : L[at0 + i].toNat = k := by omega
              rw [this]; rfl
      · have g2 : ¬ (i : Int) = 9 := of_decide_eq_false g2
        have hfit : k % 128 * 2 ^ (7 * i) < 18446744073709551616 := fitOK hi9 (by omega) (by omega)
        have hub := orBound hi9 hnn hfit
        have e1 : intBits .and .u8 L[at0 + i] 127 = ((k % 128 : Nat) : Int) := by rw [hk]; exact and127 hk256
        refine Exists.intro _ (And.intro e1 ?_)
        clear e1
        refine Exists.intro _ (And.intro (w64u (n := ((k % 128 : Nat) : Int)) (by omega)) ?_)
        have e3 : IntKind.i64.wrap (7 * (i : Int)) = ((7 * i : Nat) : Int) := by rw [wrap64 (by omega)]; omega
        refine Exists.intro _ (And.intro e3 ?_)
        clear e3
        refine Exists.intro _ (And.intro (w64u (n := ((7 * i : Nat) : Int)) (by omega)) ?_)
        refine And.intro (Int.natCast_nonneg _) (Exists.intro _ (And.intro (shl7 (k % 128) hi9) ?_))
        have hor : intBits .or .u64 u (((k % 128 * 2 ^ (7 * i)) % 18446744073709551616 : Nat) : Int) = ((n + k % 128 * 2 ^ (7 * i) : Nat) : Int) := by rw [hun, Nat.mod_eq_of_lt hfit]; exact orAdd hi9 hnn hfit
        refine Exists.intro _ (And.intro hor ?_)
        clear hor
        refine And.intro (fun g3 => ?_) (fun g3 => ?_)
        · have g3 : L[at0 + i] < 128 := of_decide_eq_true g3
          have hkm : k % 128 = k := by omega
          refine Exists.intro _ (And.intro (wrap64 (n := (at0 : Int) + (i : Int)) (by omega)) ?_)
          refine Exists.intro _ (And.intro (wrap64 (n := (at0 : Int) + (i : Int) + 1) (by omega)) ?_)
          have hlast : rd (L.drop at0) 0 0 = if (0 < i ∧ L[at0 + i] = 0) ∨ (i = 9 ∧ 1 < L[at0 + i]) then none else some (n + k % 128 * 2 ^ (7 * i), L.drop (at0 + i + 1)) := by
            rw [hr0, rd, if_neg (by omega), if_neg (by omega), hkm]
            have : L[at0 + i].toNat = k := by omega
            rw [this]
          refine And.intro (fun g4 => ?_) (fun g4 => ?_)
          · have g4 : ¬ 0 < L[at0 + i] := of_decide_eq_false g4
            refine VRet.mk [0, 1] (.tup [.raw (.int .u64 ((n + k % 128 * 2 ^ (7 * i) : Nat) : Int)), bv (decide ((i : Int) = 0))]) [.cells (rrc 1 o L.length c ((at0 : Int) + i + 1) bad) T_rostrumref1_Reader, .ro xs te] ⟨rfl, rfl, rfl⟩ ⟨_, _, _, rfl, rfl, ?_⟩
            by_cases h0 : i = 0
            · right
              refine ⟨by simp [h0], _, at0 + i + 1, rfl, hub, by omega, by omega, ?_⟩
              rw [hlast, if_neg (by omega)]
            · left
              refine ⟨by simp; omega, ?_, _, rfl, hub⟩
              rw [hlast, if_pos (by left; omega)]
          · have g4 : decide (0 < L[at0 + i]) = true := g4
            have g4 := of_decide_eq_true g4
            refine VRet.mk [0, 1] (.tup [.raw (.int .u64 ((n + k % 128 * 2 ^ (7 * i) : Nat) : Int)), bv true]) [.cells (rrc 1 o L.length c ((at0 : Int) + i + 1) bad) T_rostrumref1_Reader, .ro xs te] ⟨rfl, rfl, rfl⟩ ⟨_, _, _, rfl, rfl, .inr ⟨rfl, _, at0 + i + 1, rfl, hub, by omega, by omega, ?_⟩⟩
            rw [hlast, if_neg (by omega)]
        · have g3 : ¬ L[at0 + i] < 128 := of_decide_eq_false g3
          have hw : IntKind.i64.wrap ((i : Int) + 1) = ((i + 1 : Nat) : Int) := wrap64 (by omega)
          refine Exists.intro _ (And.intro hw ?_)
          refine Exists.intro ⟨i + 1, ((n + k % 128 * 2 ^ (7 * i) : Nat) : Int)⟩ (Exists.intro [0, 1] (And.intro ⟨⟨by simp only; omega, .inl ⟨by simp only; omega, _, rfl, ?_, ?_⟩⟩, by simp only; omega⟩ ⟨rfl, rfl, rfl⟩))
          · have h128 : k % 128 + 1 ≤ 128 := by omega
            have := Nat.mul_le_mul_right (2 ^ (7 * i)) h128
            simp only
            rw [show 7 * (i + 1) = 7 * i + 7 by omega, Nat.pow_add]
            rw [Nat.add_mul, Nat.one_mul] at this
            omega
          · simp only
            rw [hr0, rd, if_neg (by omega), if_pos (by omega)]
            have : L[at0 + i].toNat = k := by omega
            rw [this]; rfl
    · have g1 : ¬ (at0 : Int) + (i : Int) < (L.length : Int) := of_decide_eq_false g1
      refine VRet.mk [0, 1] (.tup [.raw (.int .u64 0), bv false]) [.cells (rrc 1 o L.length c at0 bad) T_rostrumref1_Reader, .ro xs te] ⟨rfl, rfl, rfl⟩ ⟨0, false, at0, rfl, rfl, .inl ⟨rfl, ?_, 0, rfl, by omega⟩⟩
      rw [hr0, List.drop_eq_nil_of_le (by omega), rd_end]
  · have h : ¬ (i : Int) < 10 := of_decide_eq_false h
    refine VRet.mk [0, 1] (.tup [.raw (.int .u64 0), bv false]) [.cells (rrc 1 o L.length c at0 bad) T_rostrumref1_Reader, .ro xs te] ⟨rfl, rfl, rfl⟩ ⟨0, false, at0, rfl, rfl, .inl ⟨rfl, ?_, 0, rfl, by omega⟩⟩
    rcases hinv with ⟨h9, _⟩ | ⟨_, h⟩
    · omega
    · exact h
end Go.Proofs

namespace Go.Proofs
open Go Go.V
set_option maxRecDepth 100000
set_option linter.unusedVariables false

set_option maxHeartbeats 4000000 in
theorem s_rNum (L : List Int) (least most : Int) (o c at0 : Nat) (xs : List Value) (te : TypeId) (hL : 0 < L.length → o + L.length ≤ xs.length) (hx : (xs.drop o).take L.length = L.map (Value.int .u8)) (hby : ∀ b ∈ L, 0 ≤ b ∧ b < 256) (hat : at0 ≤ L.length) (hlen : L.length ≤ 1000000) :
    Ctr Try.prog F_rostrumref1_Reader_Num [.ptr 0 0, iv least, iv most] [.cells (rrc 1 o L.length c at0 false) T_rostrumref1_Reader, .ro xs te]
    (fun x H => (∃ (v : Int) (k : Nat), rdN (L.drop at0) least most = some (v, L.drop k) ∧ k ≤ L.length ∧ x = iv v ∧ H = [.cells (rrc 1 o L.length c k false) T_rostrumref1_Reader, .ro xs te]) ∨
      (rdN (L.drop at0) least most = none ∧ x = iv 0 ∧ ∃ at1, H = [.cells (rrc 1 o L.length c at1 true) T_rostrumref1_Reader, .ro xs te])) := by
  refine i_rostrumref1_Reader_Num.spec follows ?_
  refine And.intro (fun h => Bool.noConfusion h) (fun _ => ?_)
  refine VCall.mk [0, 1] (s_raw L o c at0 false xs te hL hx hby hat hlen) ⟨rfl, rfl, rfl⟩ ?_
  rintro _ _ ⟨u, ok, at1, rfl, rfl, (⟨rfl, hr, n, rfl, hn⟩ | ⟨rfl, n, k, rfl, hn, rfl, hk, hr⟩)⟩
  · refine And.intro (by omega) (Exists.intro _ (And.intro (shr1 n) ?_))
    refine Exists.intro _ (And.intro (wrap64 (n := ((n / 2 : Nat) : Int)) (by omega)) ?_)
    refine Exists.intro _ (And.intro (and1 hn) ?_)
    refine And.intro (fun p1 => ?_) (fun p1 => ?_)
    · have p1 : ((n % 2 : Nat) : Int) = 1 := of_decide_eq_true p1
      have hz : IntKind.i64.wrap (-1 - ((n / 2 : Nat) : Int)) = zig n := by
        rw [wrap64 (by omega), zig, if_pos (by omega)]
      refine Exists.intro _ (And.intro hz ?_)
      clear hz
      refine And.intro (fun h => Bool.noConfusion h) (fun _ => ?_)
      exact VRet.mk [0, 1] (iv 0) [.cells (rrc 1 o L.length c at1 true) T_rostrumref1_Reader, .ro xs te] ⟨rfl, rfl, rfl⟩ (.inr ⟨by simp only [rdN, hr], rfl, _, rfl⟩)
    · have p1 : ¬ ((n % 2 : Nat) : Int) = 1 := of_decide_eq_false p1
      have hz : ((n / 2 : Nat) : Int) = zig n := by
        rw [zig, if_neg (by omega)]
      refine And.intro (fun h => Bool.noConfusion h) (fun _ => ?_)
      exact VRet.mk [0, 1] (iv 0) [.cells (rrc 1 o L.length c at1 true) T_rostrumref1_Reader, .ro xs te] ⟨rfl, rfl, rfl⟩ (.inr ⟨by simp only [rdN, hr], rfl, _, rfl⟩)
  · refine And.intro (by omega) (Exists.intro _ (And.intro (shr1 n) ?_))
    refine Exists.intro _ (And.intro (wrap64 (n := ((n / 2 : Nat) : Int)) (by omega)) ?_)
    refine Exists.intro _ (And.intro (and1 hn) ?_)
    refine And.intro (fun p1 => ?_) (fun p1 => ?_)
    · have p1 : ((n % 2 : Nat) : Int) = 1 := of_decide_eq_true p1
      have hz : IntKind.i64.wrap (-1 - ((n / 2 : Nat) : Int)) = zig n := by
        rw [wrap64 (by omega), zig, if_pos (by omega)]
      refine Exists.intro _ (And.intro hz ?_)
      clear hz
      refine And.intro (fun _ => ?_) (fun h => Bool.noConfusion h)
      refine And.intro (fun q1 => ?_) (fun q1 => ?_)
      · have q1 := of_decide_eq_false q1
        refine And.intro (fun q2 => ?_) (fun q2 => ?_)
        · have q2 := of_decide_eq_true q2
          exact VRet.mk [0, 1] (iv 0) [.cells (rrc 1 o L.length c (k : Int) true) T_rostrumref1_Reader, .ro xs te] ⟨rfl, rfl, rfl⟩ (.inr ⟨by simp only [rdN, hr]; rw [if_pos (.inr q2)], rfl, _, rfl⟩)
        · have q2 := of_decide_eq_false q2
          refine VRet.mk [0, 1] (iv (zig n)) [.cells (rrc 1 o L.length c k false) T_rostrumref1_Reader, .ro xs te] ⟨rfl, rfl, rfl⟩ (.inl ⟨_, k, ?_, hk, rfl, rfl⟩)
          simp only [rdN, hr]
          rw [if_neg (fun h => h.elim q1 q2)]
      · have q1 : decide ((zig n) < least) = true := q1
        have q1 := of_decide_eq_true q1
        exact VRet.mk [0, 1] (iv 0) [.cells (rrc 1 o L.length c (k : Int) true) T_rostrumref1_Reader, .ro xs te] ⟨rfl, rfl, rfl⟩ (.inr ⟨by simp only [rdN, hr]; rw [if_pos (.inl q1)], rfl, _, rfl⟩)
    · have p1 : ¬ ((n % 2 : Nat) : Int) = 1 := of_decide_eq_false p1
      have hz : ((n / 2 : Nat) : Int) = zig n := by
        rw [zig, if_neg (by omega)]
      refine And.intro (fun _ => ?_) (fun h => Bool.noConfusion h)
      refine And.intro (fun q1 => ?_) (fun q1 => ?_)
      · have q1 := of_decide_eq_false q1
        rw [hz] at q1
        refine And.intro (fun q2 => ?_) (fun q2 => ?_)
        · have q2 := of_decide_eq_true q2
          rw [hz] at q2
          exact VRet.mk [0, 1] (iv 0) [.cells (rrc 1 o L.length c (k : Int) true) T_rostrumref1_Reader, .ro xs te] ⟨rfl, rfl, rfl⟩ (.inr ⟨by simp only [rdN, hr]; rw [if_pos (.inr q2)], rfl, _, rfl⟩)
        · have q2 := of_decide_eq_false q2
          rw [hz] at q2
          refine VRet.mk [0, 1] (iv ((n / 2 : Nat) : Int)) [.cells (rrc 1 o L.length c k false) T_rostrumref1_Reader, .ro xs te] ⟨rfl, rfl, rfl⟩ (.inl ⟨_, k, ?_, hk, rfl, rfl⟩)
          simp only [rdN, hr]
          rw [if_neg (fun h => h.elim q1 q2), hz]
      · have q1 : decide (((n / 2 : Nat) : Int) < least) = true := q1
        have q1 := of_decide_eq_true q1
        rw [hz] at q1
        exact VRet.mk [0, 1] (iv 0) [.cells (rrc 1 o L.length c (k : Int) true) T_rostrumref1_Reader, .ro xs te] ⟨rfl, rfl, rfl⟩ (.inr ⟨by simp only [rdN, hr]; rw [if_pos (.inl q1)], rfl, _, rfl⟩)
end Go.Proofs

namespace Go.Proofs
open Go Go.V
set_option maxRecDepth 100000
set_option linter.unusedVariables false

theorem s_rNumBad (o n c : Nat) (at0 least most : Int) (xs : List Value) (te : TypeId) :
    Ctr Try.prog F_rostrumref1_Reader_Num [.ptr 0 0, iv least, iv most] [.cells (rrc 1 o n c at0 true) T_rostrumref1_Reader, .ro xs te]
    (fun x H => x = iv 0 ∧ H = [.cells (rrc 1 o n c at0 true) T_rostrumref1_Reader, .ro xs te]) := by
  refine i_rostrumref1_Reader_Num.spec follows ?_
  refine And.intro (fun _ => ?_) (fun h => Bool.noConfusion h)
  exact VRet.mk [0, 1] (iv 0) [.cells (rrc 1 o n c at0 true) T_rostrumref1_Reader, .ro xs te] ⟨rfl, rfl, rfl⟩ ⟨rfl, rfl⟩

structure VGX where
  i : Nat
  v : Nat → Int
  st : Nat ⊕ Int
theorem s_ref_GetVec (L : List Int) (o c at0 : Nat) (xs : List Value) (te : TypeId) (hL : 0 < L.length → o + L.length ≤ xs.length) (hx : (xs.drop o).take L.length = L.map (Value.int .u8)) (hby : ∀ b ∈ L, 0 ≤ b ∧ b < 256) (hat : at0 ≤ L.length) (hlen : L.length ≤ 1000000) :
    Ctr Try.prog F_rostrumref7_GetVec [.ptr 0 0] [.cells (rrc 1 o L.length c at0 false) T_rostrumref1_Reader, .ro xs te]
    (fun x H => (∃ v k, rdVs 7 (L.drop at0) = some (v, L.drop k) ∧ k ≤ L.length ∧ x = .agg (vcells v) ∧ H = [.cells (rrc 1 o L.length c (k : Nat) false) T_rostrumref1_Reader, .ro xs te]) ∨
      (rdVs 7 (L.drop at0) = none ∧ x = .agg (vcells fun _ => 0) ∧ ∃ at1, H = [.cells (rrc 1 o L.length c at1 true) T_rostrumref1_Reader, .ro xs te])) := by
  refine i_rostrumref7_GetVec.spec follows ?_
  refine VLoop.mk VGX (fun x => [(0, .ptr 0 0), (2, .ptr 2 0), (3, .ptr 3 0), (4, iv x.i)])
    (fun x => match x.st with
      | .inl k => [.cells (rrc 1 o L.length c (k : Nat) false) T_rostrumref1_Reader, .ro xs te, .cells (vcells fun _ => 0) 43, .cells (vcells x.v) 43]
      | .inr a => [.cells (rrc 1 o L.length c a true) T_rostrumref1_Reader, .ro xs te, .cells (vcells fun _ => 0) 43, .cells (vcells x.v) 43])
    (fun x => x.i ≤ 7 ∧ match x.st with
      | .inl k => rdVs x.i (L.drop at0) = some (x.v, L.drop k) ∧ k ≤ L.length
      | .inr _ => rdVs x.i (L.drop at0) = none) (fun x => 7 - x.i) ⟨0, fun _ => 0, .inl at0⟩ [0, 1, 2, 3] ⟨⟨Nat.zero_le _, rfl, hat⟩, rfl, rfl, rfl⟩ ?_
  rintro ⟨i, v, k | a⟩ ⟨hi, hinv⟩ g
  · have hi : i ≤ 7 := hi
    obtain ⟨hr, hk⟩ : rdVs i (L.drop at0) = some (v, L.drop k) ∧ k ≤ L.length := hinv
    refine And.intro (fun h => ?_) (fun h => ?_)
    · have h := of_decide_eq_true h
      have hi7 : 0 ≤ (i : Int) ∧ (i : Int) < 7 := ⟨by omega, h⟩
      have hw : IntKind.i64.wrap ((i : Int) + 1) = ((i + 1 : Nat) : Int) := wrap64 (by omega)
      refine VCall.mk [0, 1] (s_rNum L 0 1099511627776 o c k xs te hL hx hby hk hlen) ⟨rfl, rfl, rfl⟩ ?_
      rintro _ _ (⟨x, k2, hrN, hk2, rfl, rfl⟩ | ⟨hrN, rfl, a2, rfl⟩)
      · have hn : rdVs (i + 1) (L.drop at0) = some (upv v i x, L.drop k2) := by rw [rdVs, hr]; simp only [hrN]
        refine And.intro hi7 (Exists.intro _ (And.intro (vcells_put v x hi7 []) ?_))
        refine Exists.intro _ (And.intro hw ?_)
        exact Exists.intro ⟨i + 1, upv v (i : Int).toNat x, .inl k2⟩ (Exists.intro [0, 1, 2, 3] (And.intro ⟨⟨by simp only at h ⊢; omega, hn, hk2⟩, by simp only at h ⊢; omega⟩ ⟨rfl, rfl, rfl⟩))
      · have hn : rdVs (i + 1) (L.drop at0) = none := by rw [rdVs, hr]; simp only [hrN]
        refine And.intro hi7 (Exists.intro _ (And.intro (vcells_put v 0 hi7 []) ?_))
        refine Exists.intro _ (And.intro hw ?_)
        exact Exists.intro ⟨i + 1, upv v (i : Int).toNat 0, .inr a2⟩ (Exists.intro [0, 1, 2, 3] (And.intro ⟨⟨by simp only at h ⊢; omega, hn⟩, by simp only at h ⊢; omega⟩ ⟨rfl, rfl, rfl⟩))
    · have h := of_decide_eq_false h
      have h7 : i = 7 := by simp only at h; omega
      subst h7
      refine And.intro (fun h => absurd h (by decide)) (fun _ => ?_)
      exact VRet.mk [0, 1] (.agg (vcells v)) [.cells (rrc 1 o L.length c (k : Nat) false) T_rostrumref1_Reader, .ro xs te] ⟨rfl, rfl, rfl⟩ (.inl ⟨v, k, hr, hk, rfl, rfl⟩)
  · have hi : i ≤ 7 := hi
    have hinv : rdVs i (L.drop at0) = none := hinv
    refine And.intro (fun h => ?_) (fun h => ?_)
    · have h := of_decide_eq_true h
      have hi7 : 0 ≤ (i : Int) ∧ (i : Int) < 7 := ⟨by omega, h⟩
      have hw : IntKind.i64.wrap ((i : Int) + 1) = ((i + 1 : Nat) : Int) := wrap64 (by omega)
      have hn : rdVs (i + 1) (L.drop at0) = none := by rw [rdVs, hinv]
      refine VCall.mk [0, 1] (s_rNumBad o L.length c a 0 1099511627776 xs te) ⟨rfl, rfl, rfl⟩ ?_
      rintro _ _ ⟨rfl, rfl⟩
      refine And.intro hi7 (Exists.intro _ (And.intro (vcells_put v 0 hi7 []) ?_))
      refine Exists.intro _ (And.intro hw ?_)
      exact Exists.intro ⟨i + 1, upv v (i : Int).toNat 0, .inr a⟩ (Exists.intro [0, 1, 2, 3] (And.intro ⟨⟨by simp only at h ⊢; omega, hn⟩, by simp only at h ⊢; omega⟩ ⟨rfl, rfl, rfl⟩))
    · have h := of_decide_eq_false h
      have h7 : i = 7 := by simp only at h; omega
      subst h7
      refine And.intro (fun _ => ?_) (fun h => absurd h (by decide))
      exact VRet.mk [0, 1] (.agg (vcells fun _ => 0)) [.cells (rrc 1 o L.length c a true) T_rostrumref1_Reader, .ro xs te] ⟨rfl, rfl, rfl⟩ (.inr ⟨hinv, rfl, a, rfl⟩)
end Go.Proofs

namespace Go.Proofs
open Go Go.V
set_option maxRecDepth 100000
set_option linter.unusedVariables false

structure DX where
  i : Nat
  k : Nat
  last : Int × Int
  acc : List (Int × Int)
  ys : List Value
  o : Nat
  c : Nat
theorem cmp_less {x y : Int × Int} : (0 ≤ cmpD x y) ↔ lessD x y = false := by
  have h := @cmpD_lt x y
  have h2 := @lessD_iff x y
  rw [Bool.eq_false_iff, Ne, h2, ← h]
  omega
theorem cutZ {xs : List Value} {o c : Nat} {d : List (Int × Int)} (h : Row xs o c d) (hi : 0 < d.length) : V.cut xs (o + ((d.length : Int) - 1).toNat * 2) 2 = some (dcl (d[d.length - 1]'(by omega))) := by
  have e : ((d.length : Int) - 1).toNat = d.length - 1 := by omega
  rw [e]; exact h.cut _ _
set_option maxHeartbeats 4000000 in
theorem s_ref_GetDots (L : List Int) (o c : Nat) (xs : List Value) (te : TypeId) (hL : 0 < L.length → o + L.length ≤ xs.length) (hx : (xs.drop o).take L.length = L.map (Value.int .u8)) (hby : ∀ b ∈ L, 0 ≤ b ∧ b < 256) (hlen : L.length ≤ 1000000) :
    Ctr Try.prog F_rostrumref7_GetDots [.ptr 0 0] [.cells (rrc 1 o L.length c 0 false) T_rostrumref1_Reader, .ro xs te]
    (fun x H => (∃ v ds k, getD L = some (v, ds, L.drop k) ∧ k ≤ L.length ∧ x = .ptr 2 0 ∧ ∃ o' c' ys, H = [.cells (rrc 1 o L.length c (k : Nat) false) T_rostrumref1_Reader, .ro xs te, .cells (rcs v 3 o' ds.length c') T_rostrumref7_Dots, .arr ys T_api_Dot] ∧ Row ys o' c' ds) ∨
      (getD L = none ∧ x = nilP ∧ ∃ at1, H = [.cells (rrc 1 o L.length c at1 true) T_rostrumref1_Reader, .ro xs te])) := by
  refine i_rostrumref7_GetDots.spec follows ?_
  refine VCall.mk [0, 1] (s_ref_GetVec L o c 0 xs te hL hx hby (Nat.zero_le _) hlen) ⟨rfl, rfl, rfl⟩ ?_
  rw [List.drop_zero]
  rintro _ _ (⟨v, k1, hv, hk1, rfl, rfl⟩ | ⟨hv, rfl, a1, rfl⟩)
  rotate_left 1
  · have hnone : getD L = none := by simp only [getD, hv]
    refine VCall.mk [0, 1] (s_rNumBad o L.length c a1 0 1000 xs te) ⟨rfl, rfl, rfl⟩ ?_
    rintro _ _ ⟨rfl, rfl⟩
    refine VLoop.mk Nat (fun i => [(0, .ptr 0 0), (4, iv 0), (5, iv 0)]) (fun i => [.cells (rrc 1 o L.length c a1 true) T_rostrumref1_Reader, .ro xs te]) (fun _ => True) (fun _ => 0) 0 [0, 1] ⟨trivial, rfl, rfl, rfl⟩ ?_
    rintro i _ g
    refine And.intro (fun h => absurd (of_decide_eq_true h) (by decide)) (fun _ => ?_)
    refine And.intro (fun _ => ?_) (fun h => absurd h (by decide))
    exact VRet.mk [0, 1] nilP [.cells (rrc 1 o L.length c a1 true) T_rostrumref1_Reader, .ro xs te] ⟨rfl, rfl, rfl⟩ (.inr ⟨hnone, rfl, a1, rfl⟩)
  have hvb := rdVs_le hv
  refine VCall.mk [0, 1] (s_rNum L 0 1000 o c k1 xs te hL hx hby hk1 hlen) ⟨rfl, rfl, rfl⟩ ?_
  rintro _ _ (⟨n, k2, hn, hk2, rfl, rfl⟩ | ⟨hn, rfl, a2, rfl⟩)
  rotate_left 1
  · have hnone : getD L = none := by simp only [getD, hv, hn]
    refine VLoop.mk Nat (fun i => [(0, .ptr 0 0), (4, iv 0), (5, iv 0)]) (fun i => [.cells (rrc 1 o L.length c a2 true) T_rostrumref1_Reader, .ro xs te]) (fun _ => True) (fun _ => 0) 0 [0, 1] ⟨trivial, rfl, rfl, rfl⟩ ?_
    rintro i _ g
    refine And.intro (fun h => absurd (of_decide_eq_true h) (by decide)) (fun _ => ?_)
    refine And.intro (fun _ => ?_) (fun h => absurd h (by decide))
    exact VRet.mk [0, 1] nilP [.cells (rrc 1 o L.length c a2 true) T_rostrumref1_Reader, .ro xs te] ⟨rfl, rfl, rfl⟩ (.inr ⟨hnone, rfl, a2, rfl⟩)
  have hnb := rdN_le hn
  have hg0 : getD L = match rdDs v n.toNat (-1, 0) (L.drop k2) with
      | none => none
      | some (ds, l3) => some (v, ds, l3) := by simp only [getD, hv, hn]; rfl
  refine VLoop.nil T_api_Dot [] [(2, 7)] ⟨rfl, rfl⟩ ?_
  refine VLoop.mk DX (fun x => [(0, .ptr 0 0), (3, .ptr 2 0), (4, iv n), (5, iv x.i)])
    (fun x => [.cells (rrc 1 o L.length c (x.k : Nat) false) T_rostrumref1_Reader, .ro xs te, .cells (rcs v 3 x.o x.acc.length x.c) T_rostrumref7_Dots, .arr x.ys T_api_Dot])
    (fun x => (x.i : Int) ≤ n ∧ (getD L = match rdDs v (n.toNat - x.i) x.last (L.drop x.k) with
      | none => none
      | some (ds, l3) => some (v, x.acc ++ ds, l3)) ∧ Row x.ys x.o x.c x.acc ∧ x.k ≤ L.length ∧ x.acc.length ≤ x.i ∧ ((x.acc = [] ∧ x.last = (-1, 0)) ∨ ∃ h : 0 < x.acc.length, x.acc[x.acc.length - 1] = x.last))
    (fun x => n.toNat - x.i) ⟨0, k2, (-1, 0), [], [], 0, 0⟩ [0, 1, 2, 3] ⟨⟨by simp only; omega, hg0, row_nil, hk2, Nat.le_refl _, .inl ⟨rfl, rfl⟩⟩, rfl, rfl, rfl⟩ ?_
  clear hg0
  rintro ⟨i, k, last, acc, ys, o1, c1⟩ ⟨hi, hG, hR, hk, hal, hlast⟩ g
  simp only at hi hG hR hk hal hlast
  refine And.intro (fun h => ?_) (fun h => ?_)
  · have h := of_decide_eq_true h
    have hin : n.toNat - i = (n.toNat - (i + 1)) + 1 := by simp only at h; omega
    rw [hin, rdDs] at hG
    refine And.intro (fun _ => ?_) (fun h => Bool.noConfusion h)
    refine VCall.mk [0, 1] (s_rNum L 0 6 o c k xs te hL hx hby hk hlen) ⟨rfl, rfl, rfl⟩ ?_
    rintro _ _ (⟨r, k4, hr, hk4, rfl, rfl⟩ | ⟨hr, rfl, a4, rfl⟩)
    rotate_left 1
    · rw [hr] at hG
      refine VCall.mk [0, 1] (s_rNumBad o L.length c a4 1 1099511627776 xs te) ⟨rfl, rfl, rfl⟩ ?_
      rintro _ _ ⟨rfl, rfl⟩
      refine And.intro (fun h => Bool.noConfusion h) (fun _ => ?_)
      refine And.intro (fun _ => ?_) (fun h => Bool.noConfusion h)
      refine VRet.mk [0, 1] nilP [.cells (rrc 1 o L.length c a4 true) T_rostrumref1_Reader, .ro xs te] ⟨rfl, rfl, rfl⟩ (.inr ⟨hG, rfl, a4, rfl⟩)
    rw [hr] at hG
    have hrb := rdN_le hr
    refine VCall.mk [0, 1] (s_rNum L 1 1099511627776 o c k4 xs te hL hx hby hk4 hlen) ⟨rfl, rfl, rfl⟩ ?_
    rintro _ _ (⟨d2, k5, hr5, hk5, rfl, rfl⟩ | ⟨hr5, rfl, a5, rfl⟩)
    rotate_left 1
    · simp only [hr5] at hG
      refine And.intro (fun h => Bool.noConfusion h) (fun _ => ?_)
      refine And.intro (fun _ => ?_) (fun h => Bool.noConfusion h)
      exact VRet.mk [0, 1] nilP [.cells (rrc 1 o L.length c a5 true) T_rostrumref1_Reader, .ro xs te] ⟨rfl, rfl, rfl⟩ (.inr ⟨hG, rfl, a5, rfl⟩)
    simp only [hr5] at hG
    have hdb := rdN_le hr5
    have hvr := hvb r.toNat
    refine And.intro (fun _ => ?_) (fun h => Bool.noConfusion h)
    refine And.intro ⟨hrb.1, by omega⟩ (Exists.intro _ (And.intro (rcs_get v 3 o1 acc.length c1 ⟨hrb.1, by omega⟩) ?_))
    refine Exists.intro _ (And.intro (wrap64 (n := v r.toNat + 1) (by omega)) ?_)
    refine And.intro (fun g2 => ?_) (fun g2 => ?_)
    rotate_left 1
    · have g2 : decide (d2 ≤ v r.toNat + 1) = true := g2
      rw [if_pos (.inr (of_decide_eq_true g2))] at hG
      refine And.intro (fun _ => ?_) (fun h => Bool.noConfusion h)
      exact VRet.mk [0, 1] nilP [.cells (rrc 1 o L.length c (k5 : Nat) true) T_rostrumref1_Reader, .ro xs te] ⟨rfl, rfl, rfl⟩ (.inr ⟨hG, rfl, _, rfl⟩)
    have g2 := of_decide_eq_false g2
    refine And.intro (fun g3 => ?_) (fun g3 => ?_)
    · have g3 := of_decide_eq_true g3
      have hg3 : 0 < acc.length := by simp only at g3; omega
      refine Exists.intro _ (And.intro (wrap64 (n := (acc.length : Int) - 1) (by omega)) ?_)
      refine And.intro ⟨by omega, by simp only; omega, by have := hR.1; have := hR.2.1; simp only; omega⟩ ?_
      refine Exists.intro _ (And.intro (cutZ hR hg3) ?_)
      refine VCall.mk [] (s_ref_Less (acc[acc.length - 1]'(by omega)).1 (acc[acc.length - 1]'(by omega)).2 r d2) ⟨rfl, rfl, rfl⟩ ?_
      rintro _ _ ⟨rfl, rfl⟩
      have hl2 : acc[acc.length - 1]'(by omega) = last := by
        rcases hlast with ⟨rfl, _⟩ | ⟨_, h⟩
        · simp at hg3
        · exact h
      refine And.intro (fun g4 => ?_) (fun g4 => ?_)
      · have g4 : lessD last (r, d2) = false := by
          rw [← hl2]; simpa using g4
        rw [if_pos (.inl (cmp_less.2 g4))] at hG
        refine And.intro (fun _ => ?_) (fun h => Bool.noConfusion h)
        exact VRet.mk [0, 1] nilP [.cells (rrc 1 o L.length c (k5 : Nat) true) T_rostrumref1_Reader, .ro xs te] ⟨rfl, rfl, rfl⟩ (.inr ⟨hG, rfl, _, rfl⟩)
      · have hless : ¬ lessD last (r, d2) = false := by
          rw [← hl2]; simpa using g4
        rw [if_neg (fun h => h.elim (fun h => hless (cmp_less.1 h)) g2)] at hG
        refine And.intro rfl (And.intro rfl ?_)
        refine And.intro ⟨⟨hR.1, hR.2.1, rfl⟩, ⟨rfl, rfl⟩, by simp only; omega⟩ ?_
        intro zs o2 c2 hz
        refine Exists.intro _ (And.intro (wrap64 (n := (i : Int) + 1) (by simp only at h; omega)) ?_)
        refine Exists.intro ⟨i + 1, k5, (r, d2), acc ++ [(r, d2)], zs, o2, c2⟩ (Exists.intro [0, 1, 2, 6] (And.intro ⟨⟨by simp only at h ⊢; omega, ?_, ⟨?_, hz.2.1, ?_⟩, hk5, by simp; omega, .inr ⟨by simp, by simp⟩⟩, by simp only at h ⊢; omega⟩ ⟨rfl, ?_, rfl⟩))
        · simp only
          rw [hG]
          cases rdDs v (n.toNat - (i + 1)) (r, d2) (List.drop k5 L) with
          | none => rfl
          | some q => simp
        · have := hz.1; simp only at this; simp; omega
        · have := hz.2.2
          simp only at this
          rw [hR.2.2] at this
          simpa using this
        · simp only [List.length_append]; rfl
    have g3 : decide (0 < (acc.length : Int)) = false := g3
    have g3 := of_decide_eq_false g3
    have hless : ¬ lessD last (r, d2) = false := by
      rcases hlast with ⟨_, rfl⟩ | ⟨h, _⟩
      · intro h
        rw [Bool.eq_false_iff, Ne, lessD_iff] at h
        apply h; simp only; omega
      · omega
    rw [if_neg (fun h => h.elim (fun h => hless (cmp_less.1 h)) g2)] at hG
    refine And.intro rfl (And.intro rfl ?_)
    refine And.intro ⟨⟨hR.1, hR.2.1, rfl⟩, ⟨rfl, rfl⟩, by simp only; omega⟩ ?_
    intro zs o2 c2 hz
    refine Exists.intro _ (And.intro (wrap64 (n := (i : Int) + 1) (by simp only at h; omega)) ?_)
    refine Exists.intro ⟨i + 1, k5, (r, d2), acc ++ [(r, d2)], zs, o2, c2⟩ (Exists.intro [0, 1, 2, 6] (And.intro ⟨⟨by simp only at h ⊢; omega, ?_, ⟨?_, hz.2.1, ?_⟩, hk5, by simp; omega, .inr ⟨by simp, by simp⟩⟩, by simp only at h ⊢; omega⟩ ⟨rfl, ?_, rfl⟩))
    · simp only
      rw [hG]
      cases rdDs v (n.toNat - (i + 1)) (r, d2) (List.drop k5 L) with
      | none => rfl
      | some q => simp
    · have := hz.1; simp only at this; simp; omega
    · have := hz.2.2
      simp only at this
      rw [hR.2.2] at this
      simpa using this
    · simp only [List.length_append]; rfl
  · have h := of_decide_eq_false h
    have h0 : n.toNat - i = 0 := by simp only at h; omega
    rw [h0, rdDs] at hG
    refine And.intro (fun h => absurd h (by decide)) (fun _ => ?_)
    simp only [List.append_nil] at hG
    exact VRet.mk [0, 1, 2, 3] (.ptr 2 0) [.cells (rrc 1 o L.length c (k : Nat) false) T_rostrumref1_Reader, .ro xs te, .cells (rcs v 3 o1 acc.length c1) T_rostrumref7_Dots, .arr ys T_api_Dot] ⟨rfl, rfl, rfl⟩ (.inl ⟨v, acc, k, hG, hk, rfl, o1, c1, ys, rfl, hR⟩)
end Go.Proofs

namespace Go.Proofs
open Go Go.V
set_option maxRecDepth 100000
set_option linter.unusedVariables false

/-! ### What is read is well formed -/
theorem rdDs_ok {v : Nat → Int} : ∀ {k : Nat} {last : Int × Int} {l : List Int} {ds : List (Int × Int)} {l' : List Int}, rdDs v k last l = some (ds, l') → ds.length = k ∧ (last :: ds).Pairwise (fun x y => cmpD x y < 0) ∧ ∀ x ∈ ds, isDot x.1 x.2 = true ∧ v x.1.toNat + 1 < x.2
  | 0, last, l, ds, l', h => by
    simp only [rdDs, Option.some.injEq, Prod.mk.injEq] at h
    obtain ⟨rfl, _⟩ := h
    exact ⟨rfl, by simp, by simp⟩
  | k + 1, last, l, ds, l', h => by
    rw [rdDs] at h
    split at h
    · cases h
    rename_i r l1 h1
    split at h
    · cases h
    rename_i n l2 h2
    split at h
    · cases h
    rename_i hc
    split at h
    · cases h
    rename_i ds2 l3 h3
    simp only [Option.some.injEq, Prod.mk.injEq] at h
    obtain ⟨rfl, rfl⟩ := h
    obtain ⟨i1, i2, i3⟩ := rdDs_ok h3
    have hr := rdN_le h1
    have hn := rdN_le h2
    have hlt : cmpD last (r, n) < 0 := by omega
    have hp := List.pairwise_cons.1 i2
    refine ⟨by simp [i1], List.pairwise_cons.2 ⟨fun x hx => ?_, i2⟩, fun x hx => ?_⟩
    · rcases List.mem_cons.1 hx with rfl | hx
      · exact hlt
      · have h4 := hp.1 x hx
        rw [cmpD_lt] at *
        simp only at *; omega
    · rcases List.mem_cons.1 hx with rfl | hx
      · exact ⟨isDot_iff.2 ⟨by simp only; omega, by simp only; omega⟩, by simp only; omega⟩
      · exact i3 x hx
structure GetOK (v : Nat → Int) (ds : List (Int × Int)) : Prop where
  lo : ∀ r, 0 ≤ v r ∧ v r ≤ 1099511627776
  len : ds.length ≤ 1000
  up : ds.Pairwise (fun x y => cmpD x y < 0)
  far : ∀ x ∈ ds, isDot x.1 x.2 = true ∧ v x.1.toNat + 1 < x.2
theorem getD_ok {l : List Int} {v : Nat → Int} {ds : List (Int × Int)} {l' : List Int} (h : getD l = some (v, ds, l')) : GetOK v ds := by
  unfold getD at h
  split at h
  · cases h
  rename_i v1 l1 h1
  split at h
  · cases h
  rename_i n l2 h2
  split at h
  · cases h
  rename_i ds2 l3 h3
  simp only [Option.some.injEq, Prod.mk.injEq] at h
  obtain ⟨rfl, rfl, rfl⟩ := h
  obtain ⟨i1, i2, i3⟩ := rdDs_ok h3
  have := rdN_le h2
  exact ⟨rdVs_le h1, by omega, (List.pairwise_cons.1 i2).2, i3⟩
theorem GetOK.rises {v : Nat → Int} {ds : List (Int × Int)} (h : GetOK v ds) : Rises ds := by
  refine List.Pairwise.imp ?_ h.up
  intro a b hab
  rw [lessD_iff]; rw [cmpD_lt] at hab; exact hab
theorem GetOK.canon {v : Nat → Int} {ds : List (Int × Int)} (h : GetOK v ds) {ms : DM} (hK : (ms.map (·.1)).Nodup) (hA : ∀ d, inM ms d = true ↔ d ∈ ds) : Canon v ms (fun d => has v d.1 d.2 = true ∨ d ∈ ds) where
  lo := fun r _ => h.lo r
  nd := hK
  seen := fun d => by rw [hA]
  far := fun d hd => by
    have := h.far d ((hA d).1 hd)
    exact ⟨this.1, by omega⟩
  gap := fun d hd => (h.far d ((hA d).1 hd)).2
theorem GetOK.rc {v : Nat → Int} {ds : List (Int × Int)} (h : GetOK v ds) : RC v ds (fun d => has v d.1 d.2 = true ∨ d ∈ ds) where
  can := h.canon (by have := keysOf_mkD ds; unfold keysOf at this; rw [this]; exact h.rises.nodup) (fun d => inM_mkD)
  up := h.rises
end Go.Proofs

