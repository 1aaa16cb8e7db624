/- Part of the proof that the statement named in the last file holds: lemmas of the prover's own. No conditions. -/
import Derived.Test.YtbeogbniojlddaaGreatDoorDC
import Derived.Test.YtbeogbniojlddaaGreatDoorVD
namespace Go.Proofs
open Go Go.V Go.Lib
set_option maxRecDepth 100000
set_option linter.unusedVariables false

/-! ### Bytes -/
theorem brow_nil_of {xs : List Value} {o c : Nat} {l : List Int} (h : Brow xs o c l) (hx : xs = []) : l = [] := by
  subst hx
  have := h.1; have := h.2.1
  simp at this
  exact List.length_eq_zero_iff.1 (by omega)
theorem brow_nil : Brow [] 0 0 [] := ⟨Nat.le_refl _, by simp, rfl⟩
theorem s_bytes_Clone (l : List Int) (xs : List Value) (te : TypeId) (o c : Nat) (hb : Brow xs o c l) (hl : l.length ≤ 10000000) :
    Ctr Tryz.prog F_bytes_Clone [.sl 0 o l.length c] [.arr xs te] (fun x H => ∃ o' c' ys, x = .sl 1 o' l.length c' ∧ H = [.arr xs te, .arr ys T_uint8] ∧ Brow ys o' c' l) := by
  refine i_bytes_Clone.spec follows ?_
  refine fun b hbn => ?_
  refine And.intro (fun h => ?_) (fun _ => ?_)
  · have hx : xs = [] := by
      refine Classical.byContradiction fun hn => ?_
      rw [hbn hn] at h; cases h
    have hl0 := brow_nil_of hb hx
    refine VRet.nil T_uint8 [0] [] ⟨rfl, rfl⟩ (VRet.mk [0, 1] (.sl 1 0 0 0) [.arr xs te, .arr [] T_uint8] ⟨rfl, rfl, rfl⟩ ⟨0, 0, [], ?_, rfl, ?_⟩)
    · rw [hl0]; rfl
    · rw [hl0]; exact brow_nil
  refine And.intro ⟨⟨Nat.zero_le _, by simp, rfl⟩, ⟨?_, ?_⟩, by omega⟩ ?_
  · rw [hb.take1]; simp
  · rw [hb.take1]; exact cellsOK_ints l
  intro zs' o' c' hz
  refine VRet.mk [0, 2] (.sl 1 o' (0 + l.length) c') [.arr xs te, .arr zs' T_uint8] ⟨rfl, rfl, rfl⟩ ⟨o', c', zs', ?_, rfl, ?_, ?_, ?_⟩
  · show SV.sl 1 o' (0 + l.length) c' = _; rw [Nat.zero_add]
  · omega
  · omega
  · have := hz.2.2
    rw [hb.take1] at this
    simpa using this
structure BX where
  xs : List Value
  o : Nat
  c : Nat
  l : List Int
  u : Nat
theorem s_pack_Num (l : List Int) (xs : List Value) (te : TypeId) (o c : Nat) (hb : Brow xs o c l) (hl : l.length ≤ 9000000) (v : Int) (hv : 0 ≤ v ∧ v < 4611686018427387904) :
    Ctr Tryz.prog F_pack_Num [.sl 0 o l.length c, iv v] [.arr xs te] (fun x H => ∃ o' c' ys, x = .sl 1 o' (l ++ Go.V.numB (2 * v.toNat)).length c' ∧ H = [.arr xs te, .arr ys T_uint8] ∧ Brow ys o' c' (l ++ Go.V.numB (2 * v.toNat))) := by
  refine i_pack_Num.spec follows ?_
  have hlen := numB_len10 (u := 2 * v.toNat) (by omega)
  refine VCall.mk [0] (s_bytes_Clone l xs te o c hb (by omega)) ⟨rfl, rfl, rfl⟩ ?_
  rintro _ _ ⟨o1, c1, ys1, rfl, rfl, hb1⟩
  refine Exists.intro _ (And.intro (w64u (n := v) (by omega)) ?_)
  refine And.intro (by omega) (Exists.intro _ (And.intro (shl1 hv) ?_))
  refine And.intro (by omega) (Exists.intro _ (And.intro (shr63 hv) ?_))
  refine Exists.intro _ (And.intro (w64u (n := 0) (by omega)) ?_)
  refine Exists.intro _ (And.intro (xor0 (u := 2 * v.toNat) (by omega)) ?_)
  refine VLoop.mk BX (fun x => [(5, .sl 1 x.o x.l.length x.c), (6, .raw (.int .u64 (x.u : Int)))])
    (fun x => [.arr xs te, .arr x.xs T_uint8])
    (fun x => Brow x.xs x.o x.c x.l ∧ x.l ++ Go.V.numB x.u = l ++ Go.V.numB (2 * v.toNat) ∧ x.u < 18446744073709551616) (fun x => x.u) ⟨ys1, o1, c1, l, 2 * v.toNat⟩ [0, 1] ⟨⟨hb1, rfl, by simp only; omega⟩, rfl, rfl, rfl⟩ ?_
  clear hb1
  rintro ⟨xs2, o2, c2, l2, u⟩ ⟨hB, hN, hu64⟩ g
  simp only at hB hN hu64
  have hNl := congrArg List.length hN
  simp only [List.length_append] at hNl
  have hlu : l2.length ≤ 10000000 := by omega
  refine And.intro (fun h => ?_) (fun h => ?_)
  · have h := of_decide_eq_true h
    have hu : ¬ u < 128 := by simp only at h; omega
    refine Exists.intro _ (And.intro (Go.V.w8 u) ?_)
    refine Exists.intro _ (And.intro (Go.V.or8 u) ?_)
    refine And.intro ⟨⟨hB.1, by have := hB.2.1; simpa using this, rfl⟩, ⟨rfl, rfl⟩, by simp only; omega⟩ ?_
    intro zs' o' c' hz
    refine And.intro (by omega) (Exists.intro _ (And.intro (Go.V.sh7 u) ?_))
    refine Exists.intro ⟨zs', o', c', l2 ++ [((u % 128 + 128 : Nat) : Int)], u / 128⟩ (Exists.intro [0, 3] (And.intro ⟨⟨⟨?_, ?_, ?_⟩, ?_, by show u / 128 < _; omega⟩, ?_⟩ ⟨?_, rfl, rfl⟩))
    · have := hz.1; simp only at this; simp; omega
    · have := hz.2.1; simpa using this
    · have := hz.2.2
      simp only at this
      rw [hB.take1] at this
      simpa using this
    · rw [← hN, numB_ge hu, List.append_assoc]; rfl
    · show u / 128 < u; omega
    · show [nkb (.sl 3 o' (l2.length + 1) c'), _] = [nkb (.sl 3 o' (l2 ++ [((u % 128 + 128 : Nat) : Int)]).length c'), _]
      rw [List.length_append]; rfl
  · have h := of_decide_eq_false h
    have hu : u < 128 := by simp only at h; omega
    refine Exists.intro _ (And.intro (Go.V.w8 u) ?_)
    refine And.intro ⟨⟨hB.1, by have := hB.2.1; simpa using this, rfl⟩, ⟨rfl, rfl⟩, by simp only; omega⟩ ?_
    intro zs' o' c' hz
    have hm : u % 256 = u := by omega
    rw [numB_lt hu] at hN
    refine VRet.mk [0, 3] (.sl 1 o' (l2.length + 1) c') [.arr xs te, .arr zs' T_uint8] ⟨rfl, rfl, rfl⟩ ⟨o', c', zs', ?_, rfl, ?_⟩
    · show SV.sl 1 o' (l2.length + 1) c' = _; rw [← hN, List.length_append]; rfl
    · rw [← hN]
      refine ⟨?_, ?_, ?_⟩
      · have := hz.1; simp only at this; simp; omega
      · have := hz.2.1; simpa using this
      · have := hz.2.2
        simp only at this
        rw [hB.take1, hm] at this
        simpa using this
def vecB (v : Nat → Int) : Nat → List Int
  | 0 => []
  | n + 1 => vecB v n ++ Go.V.numB (2 * (v n).toNat)
theorem vecB_len {v : Nat → Int} (hv : ∀ r, r < 7 → 0 ≤ v r ∧ v r ≤ 1099511627776) : ∀ n, n ≤ 7 → (vecB v n).length ≤ 10 * n
  | 0, _ => by simp [vecB]
  | n + 1, h => by
    have := vecB_len hv n (by omega)
    have := hv n (by omega)
    have := numB_len10 (u := 2 * (v n).toNat) (by omega)
    rw [vecB, List.length_append]; omega

theorem s_vec_Put (l : List Int) (xs : List Value) (te : TypeId) (o c : Nat) (hb : Brow xs o c l) (hl : l.length ≤ 8000000) (v : Nat → Int) (hv : ∀ r, r < 7 → 0 ≤ v r ∧ v r ≤ 1099511627776) :
    Ctr Tryz.prog F_vec_Put [.sl 0 o l.length c, .agg (vcells v)] [.arr xs te] (fun x H => ∃ o' c' ys, x = .sl 1 o' (l ++ vecB v 7).length c' ∧ H = [.arr xs te, .arr ys T_uint8] ∧ Brow ys o' c' (l ++ vecB v 7)) := by
  refine i_vec_Put.spec follows ?_
  refine VLoop.mk (Option BX) (fun x => match x with | none => [(0, .sl 0 o l.length c), (7, .agg (vcells v)), (8, iv (0 : Nat))] | some x => [(0, .sl 1 x.o x.l.length x.c), (7, .agg (vcells v)), (8, iv (x.u : Nat))])
    (fun x => match x with | none => [.arr xs te] | some x => [.arr xs te, .arr x.xs T_uint8])
    (fun x => match x with | none => True | some x => Brow x.xs x.o x.c x.l ∧ x.l = l ++ vecB v x.u ∧ x.u ≤ 7) (fun x => match x with | none => 8 | some x => 7 - x.u) none [0] ⟨trivial, rfl, rfl, rfl⟩ ?_
  rintro (_ | ⟨xs2, o2, c2, l2, i⟩) hinv g
  · refine And.intro (fun _ => ?_) (fun h => absurd h (by decide))
    have := hv 0 (by omega)
    refine And.intro ⟨by omega, by omega⟩ (Exists.intro _ (And.intro rfl ?_))
    refine VCall.mk [0] (s_pack_Num l xs te o c hb (by omega) (v 0) (by omega)) ⟨rfl, rfl, rfl⟩ ?_
    rintro _ _ ⟨o', c', ys, rfl, rfl, hB⟩
    refine Exists.intro _ (And.intro (wrap64 (n := ((0 : Nat) : Int) + 1) (by omega)) ?_)
    exact Exists.intro (some ⟨ys, o', c', l ++ Go.V.numB (2 * (v 0).toNat), 1⟩) (Exists.intro [0, 1] (And.intro ⟨⟨hB, by simp [vecB], by show 1 ≤ 7; omega⟩, by show 7 - 1 < 8; omega⟩ ⟨rfl, rfl, rfl⟩))
  have hinv : Brow xs2 o2 c2 l2 ∧ l2 = l ++ vecB v i ∧ i ≤ 7 := hinv
  obtain ⟨hB, rfl, hi⟩ := hinv
  have hvl := vecB_len hv i hi
  refine And.intro (fun h => ?_) (fun h => ?_)
  · have h := of_decide_eq_true h
    have hi7 : 0 ≤ (i : Int) ∧ (i : Int) < 7 := ⟨by omega, h⟩
    have hvi := hv i (by simp only at h; omega)
    have hw : IntKind.i64.wrap ((i : Int) + 1) = ((i + 1 : Nat) : Int) := wrap64 (by omega)
    have hg : (vcells v)[(i : Int).toNat * 1]? = some (iv (v (i : Int).toNat)) := by have := vcells_get' v hi7 []; simpa using this
    refine And.intro hi7 (Exists.intro _ (And.intro hg ?_))
    refine VCall.mk [1] (s_pack_Num (l ++ vecB v i) xs2 T_uint8 o2 c2 hB (by rw [List.length_append]; omega) (v (i : Int).toNat) (by rw [Int.toNat_natCast]; omega)) ⟨rfl, rfl, rfl⟩ ?_
    rintro _ _ ⟨o', c', ys, rfl, rfl, hB'⟩
    refine Exists.intro _ (And.intro hw ?_)
    refine Exists.intro (some ⟨ys, o', c', l ++ vecB v i ++ Go.V.numB (2 * (v (i : Int).toNat).toNat), i + 1⟩) (Exists.intro [0, 2] (And.intro ⟨⟨hB', ?_, by show i + 1 ≤ 7; simp only at h; omega⟩, ?_⟩ ⟨rfl, rfl, rfl⟩))
    · rw [Int.toNat_natCast, List.append_assoc]; rfl
    · show 7 - (i + 1) < 7 - i; simp only at h; omega
  · have h := of_decide_eq_false h
    have h7 : i = 7 := by simp only at h; omega
    subst h7
    exact VRet.mk [0, 1] (.sl 1 o2 (l ++ vecB v 7).length c2) [.arr xs te, .arr xs2 T_uint8] ⟨rfl, rfl, rfl⟩ ⟨o2, c2, xs2, rfl, rfl, hB⟩
end Go.Proofs

namespace Go.Proofs
open Go Go.V Go.Lib
set_option maxRecDepth 100000
set_option linter.unusedVariables false

theorem s_pack_Bytes (l m : List Int) (xs zs : List Value) (te te2 : TypeId) (o c o2 c2 : Nat) (hb : Brow xs o c l) (hb2 : Brow zs o2 c2 m) (hl : l.length ≤ 8000000) (hm : m.length ≤ 500000) :
    Ctr Tryz.prog F_pack_Bytes [.sl 0 o l.length c, .sl 1 o2 m.length c2] [.arr xs te, .arr zs te2]
      (fun x H => ∃ o' c' ys, x = .sl 2 o' (l ++ Go.V.numB (2 * m.length) ++ m).length c' ∧ H = [.arr xs te, .arr zs te2, .arr ys T_uint8] ∧ Brow ys o' c' (l ++ Go.V.numB (2 * m.length) ++ m)) := by
  refine i_pack_Bytes.spec follows ?_
  have hn := numB_len10 (u := 2 * m.length) (by omega)
  have hN := s_pack_Num l xs te o c hb (by omega) (m.length : Int) (by omega)
  rw [Int.toNat_natCast] at hN
  refine VCall.mk [0] hN ⟨rfl, rfl, rfl⟩ ?_
  rintro _ _ ⟨o1, c1, ys1, rfl, rfl, hb1⟩
  have hlen : (l ++ Go.V.numB (2 * m.length)).length ≤ 8000010 := by rw [List.length_append]; omega
  refine And.intro ⟨⟨hb1.1, by have := hb1.2.1; simpa using this, rfl⟩, ⟨?_, ?_⟩, by omega⟩ ?_
  · rw [hb2.take1]; simp
  · rw [hb2.take1]; exact cellsOK_ints m
  intro zs' o' c' hz
  refine VRet.mk [0, 1, 3] (.sl 2 o' ((l ++ Go.V.numB (2 * m.length)).length + m.length) c') [.arr xs te, .arr zs te2, .arr zs' T_uint8] ⟨rfl, rfl, rfl⟩ ⟨o', c', zs', ?_, rfl, ?_, ?_, ?_⟩
  · rw [List.length_append (bs := m)]
  · have := hz.1; rw [List.length_append (bs := m)]; exact this
  · have := hz.2.1; simpa using this
  · have := hz.2.2
    rw [hb2.take1, hb1.take1, Nat.mul_one] at this
    rw [List.length_append (bs := m), List.map_append (l₂ := m)]
    exact this
def strL (s : ByteArray) : List Int := s.data.toList.map fun b => (b.toNat : Int)
theorem strL_len (s : ByteArray) : (strL s).length = s.size := by simp [strL]
def textB (s : ByteArray) : List Int := Go.V.numB (2 * s.size) ++ strL s
theorem s_pack_Text (l : List Int) (s : ByteArray) (xs : List Value) (te : TypeId) (o c : Nat) (hb : Brow xs o c l) (hl : l.length ≤ 8000000) (hs : s.size ≤ 1000) :
    Ctr Tryz.prog F_pack_Text [.sl 0 o l.length c, .raw (.string s)] [.arr xs te]
      (fun x H => ∃ o' c' ys, x = .sl 1 o' (l ++ textB s).length c' ∧ H = [.arr xs te, .arr ys T_uint8] ∧ Brow ys o' c' (l ++ textB s)) := by
  refine i_pack_Text.spec follows ?_
  refine fun cp hcp => ?_
  have hbs : Brow (s.data.toList.map (fun b => Value.int .u8 b.toNat) ++ List.replicate (cp - s.size) (.int .u8 0)) 0 cp (strL s) := by
    refine ⟨by rw [strL_len]; exact hcp, ?_, ?_⟩
    · have : s.data.toList.length = s.size := by simp
      simp only [List.length_append, List.length_map, List.length_replicate]; omega
    · rw [List.drop_zero, strL_len]
      have : (s.data.toList.map (fun b => Value.int .u8 b.toNat)).length = s.size := by simp
      rw [List.take_append_of_le_length (by omega), List.take_of_length_le (by omega), strL, List.map_map]
      rfl
  have hB := s_pack_Bytes l (strL s) xs _ te T_uint8 o c 0 cp hb hbs hl (by rw [strL_len]; omega)
  rw [strL_len] at hB
  refine VCall.mk [0, 1] hB ⟨rfl, rfl, rfl⟩ ?_
  rintro _ _ ⟨o1, c1, ys1, rfl, rfl, hb1⟩
  rw [List.append_assoc] at hb1
  refine VRet.mk [0, 2] (.sl 1 o1 (l ++ Go.V.numB (2 * s.size) ++ strL s).length c1) [.arr xs te, .arr ys1 T_uint8] ⟨rfl, rfl, rfl⟩ ⟨o1, c1, ys1, ?_, rfl, hb1⟩
  rw [List.append_assoc]; rfl
end Go.Proofs

namespace Go.Proofs
open Go Go.V Go.Lib
set_option maxRecDepth 100000
set_option linter.unusedVariables false

/-! ### A step's bytes -/
def zB (v : Int) : List Int := Go.V.numB (2 * v.toNat)
/-- What holds of a step that was taken: all its numbers are small. -/
structure Sm (s : ST) : Prop where
  k : 0 ≤ s.kind ∧ s.kind ≤ 7
  r : 0 ≤ s.rep ∧ s.rep ≤ 6
  n : 0 ≤ s.n ∧ s.n ≤ 1099511627776
  v : ∀ r, r < 7 → 0 ≤ s.seen r ∧ s.seen r ≤ 1099511627776
  reds : 0 ≤ s.reds ∧ s.reds ≤ 1000
  nm : s.name.size ≤ 1000
  us : s.user.size ≤ 1000
  ar : 0 ≤ s.ar ∧ s.ar ≤ 6
  an : 0 ≤ s.an ∧ s.an ≤ 1099511627776
  br : 0 ≤ s.br ∧ s.br ≤ 6
  bn : 0 ≤ s.bn ∧ s.bn ≤ 1099511627776
  am : 0 ≤ s.amount ∧ s.amount ≤ 1000000000
  fu : 0 ≤ s.funds ∧ s.funds ≤ 1125899906842624
theorem point_sm {r n : Int} {b : Bool} (h : pointB r n b = true) : (0 ≤ r ∧ r ≤ 6) ∧ 0 ≤ n ∧ n ≤ 1099511627776 := by
  cases b <;> simp [pointB, isDot, isRep] at h <;> omega
theorem num_sm {n lo hi : Int} {b : Bool} (h : numB n lo hi b = true) (h0 : 0 ≤ lo) (h1 : lo ≤ hi) : 0 ≤ n ∧ n ≤ hi := by
  cases b <;> simp [numB] at h <;> omega
theorem good_sm {s : ST} (h : goodT s = true) (h1 : s.name.size ≤ 1000) (h2 : s.user.size ≤ 1000) : Sm s := by
  have hd := good_dot h
  simp only [goodT, headT, partT, Bool.and_eq_true, decide_eq_true_eq] at h
  obtain ⟨⟨a1, a2, a3, a4, a5, a6⟩, _, b1, b2, b3, b4, b5, b6⟩ := h
  have p1 := point_sm b3
  have p2 := point_sm b4
  exact ⟨by omega, by omega, by omega, fun r hr => vgoodB_iff.1 a4 r hr, ⟨a5, a6⟩, h1, h2, p1.1, p1.2, p2.1, p2.2, num_sm b5 (by omega) (by omega), num_sm b6 (by omega) (by omega)⟩
def putB (s : ST) : List Int := zB s.kind ++ (zB s.rep ++ (zB s.n ++ (vecB s.seen 7 ++ (zB s.reds ++ (textB s.name ++ (textB s.user ++ (zB s.ar ++ (zB s.an ++ (zB s.br ++ (zB s.bn ++ (zB s.amount ++ zB s.funds)))))))))))
theorem zB_len {v : Int} (h : v < 4611686018427387904) : (zB v).length ≤ 10 := numB_len10 (by omega)
theorem textB_len {s : ByteArray} (h : s.size ≤ 1000) : (textB s).length ≤ 1010 := by
  rw [textB, List.length_append, strL_len]
  have := numB_len10 (u := 2 * s.size) (by omega)
  omega
theorem putB_len {s : ST} (h : Sm s) : (putB s).length ≤ 2200 := by
  have h1 := zB_len (v := s.kind) (by have := h.k; omega)
  have h2 := zB_len (v := s.rep) (by have := h.r; omega)
  have h3 := zB_len (v := s.n) (by have := h.n; omega)
  have h4 := vecB_len h.v 7 (by omega)
  have h5 := zB_len (v := s.reds) (by have := h.reds; omega)
  have h6 := textB_len h.nm
  have h7 := textB_len h.us
  have h8 := zB_len (v := s.ar) (by have := h.ar; omega)
  have h9 := zB_len (v := s.an) (by have := h.an; omega)
  have h10 := zB_len (v := s.br) (by have := h.br; omega)
  have h11 := zB_len (v := s.bn) (by have := h.bn; omega)
  have h12 := zB_len (v := s.amount) (by have := h.am; omega)
  have h13 := zB_len (v := s.funds) (by have := h.fu; omega)
  simp only [putB, List.length_append]
  omega
def ptsB (s : ST) : Nat → List Int
  | 0 => []
  | 1 => zB s.ar ++ zB s.an
  | _ => zB s.ar ++ zB s.an ++ (zB s.br ++ zB s.bn)
end Go.Proofs

namespace Go.Proofs
open Go Go.V Go.Lib
set_option maxRecDepth 100000
set_option linter.unusedVariables false

/-! ### A house's bytes -/
def stAt (x : HL) (d : Int × Int) : ST := (MP.get x.bs d).getD zeroT'
theorem sm_zero : Sm zeroT' := by
  refine ⟨?_, ?_, ?_, fun r _ => (show (0 : Int) ≤ 0 ∧ (0 : Int) ≤ 1099511627776 by decide), ?_, ?_, ?_, ?_, ?_, ?_, ?_, ?_, ?_⟩ <;> first | (exact ⟨by decide, by decide⟩) | decide
structure BXX where
  pre : MB
  seen : List Nat
  n : Nat
  xs : List Value
  o : Nat
  c : Nat
end Go.Proofs

namespace Go.Proofs
open Go Go.V Go.Lib
set_option maxRecDepth 100000
set_option linter.unusedVariables false

def strOf (l : List Int) : ByteArray := ⟨(l.map fun n => UInt8.ofNat n.toNat).toArray⟩
theorem strOf_size (l : List Int) : (strOf l).size = l.length := by simp [strOf, ByteArray.size]
theorem strOf_cells {l : List Int} (h : ∀ b ∈ l, 0 ≤ b ∧ b < 256) : (strOf l).data.toList.map (fun b => Value.int .u8 b.toNat) = l.map (Value.int .u8) := by
  simp only [strOf, List.map_map]
  apply List.map_congr_left
  intro b hb
  have := h b hb
  show Value.int .u8 ((UInt8.ofNat b.toNat).toNat : Int) = _
  congr 1
  rw [UInt8.toNat_ofNat']
  omega
def Byt (l : List Int) : Prop := ∀ b, b ∈ l → 0 ≤ b ∧ b < 256
theorem Byt.app {l m : List Int} (h : Byt l) (h2 : Byt m) : Byt (l ++ m) := fun b hb => by
  rcases List.mem_append.1 hb with k | k
  · exact h b k
  · exact h2 b k
theorem numB_byt (u : Nat) : Byt (Go.V.numB u) := by
  induction u using Nat.strongRecOn with
  | _ u ih =>
    intro b hb
    by_cases h : u < 128
    · rw [numB_lt h] at hb
      have hb := List.mem_singleton.1 hb
      omega
    · rw [numB_ge h] at hb
      rcases List.mem_cons.1 hb with k | k
      · omega
      · exact ih (u / 128) (by omega) b k
theorem textB_byt (s : ByteArray) : Byt (textB s) := Byt.app (numB_byt _) fun b hb => by
  obtain ⟨x, _, rfl⟩ := List.mem_map.1 hb
  have := x.toNat_lt
  omega
theorem vecB_byt (v : Nat → Int) : ∀ n, Byt (vecB v n)
  | 0 => fun b hb => by simp [vecB] at hb
  | n + 1 => (vecB_byt v n).app (numB_byt _)
theorem putB_byt (s : ST) : Byt (putB s) :=
  (numB_byt _).app ((numB_byt _).app ((numB_byt _).app ((vecB_byt _ _).app ((numB_byt _).app ((textB_byt _).app ((textB_byt _).app ((numB_byt _).app ((numB_byt _).app ((numB_byt _).app ((numB_byt _).app ((numB_byt _).app (numB_byt _))))))))))))
end Go.Proofs

namespace Go.Proofs
open Go Go.V
set_option maxRecDepth 100000
set_option linter.unusedVariables false

/-! ### The reader -/
abbrev rdc (k o n c : Nat) (bad : Bool) : List SV := [.sl k o n c, bv bad]
theorem s_fail (o n c : Nat) (bad : Bool) (xs : List Value) (te : TypeId) : Ctr Tryz.prog F_pack_Reader_fail [.ptr 0 0] [.cells (rdc 1 o n c bad) T_pack_Reader, .arr xs te]
    (fun x H => x = iv 0 ∧ H = [.cells (rdc 2 0 0 0 true) T_pack_Reader, .arr xs te, .arr [] T_uint8]) := by
  refine i_pack_Reader_fail.spec follows ?_
  exact VRet.nil T_uint8 [] [(0, 0)] ⟨rfl, rfl⟩ (VRet.mk [0, 1, 2] (iv 0) [.cells (rdc 2 0 0 0 true) T_pack_Reader, .arr xs te, .arr [] T_uint8] ⟨rfl, rfl, rfl⟩ ⟨rfl, rfl⟩)
theorem s_Bad (o n c : Nat) (bad : Bool) (xs : List Value) (te : TypeId) : Ctr Tryz.prog F_pack_Reader_Bad [.ptr 0 0] [.cells (rdc 1 o n c bad) T_pack_Reader, .arr xs te]
    (fun x H => x = bv bad ∧ H = [.cells (rdc 1 o n c bad) T_pack_Reader, .arr xs te]) := by
  refine i_pack_Reader_Bad.spec follows ?_
  exact VRet.mk [0, 1] (bv bad) [.cells (rdc 1 o n c bad) T_pack_Reader, .arr xs te] ⟨rfl, rfl, rfl⟩ ⟨rfl, rfl⟩
theorem s_End (o n c : Nat) (bad : Bool) (xs : List Value) (te : TypeId) : Ctr Tryz.prog F_pack_Reader_End [.ptr 0 0] [.cells (rdc 1 o n c bad) T_pack_Reader, .arr xs te]
    (fun x H => x = bv (!bad && decide (n = 0)) ∧ H = [.cells (rdc 1 o n c bad) T_pack_Reader, .arr xs te]) := by
  refine i_pack_Reader_End.spec follows ?_
  refine And.intro (fun h => ?_) (fun h => ?_)
  · have h : (!bad) = true := h
    refine VRet.mk [0, 1] (bv _) [.cells (rdc 1 o n c bad) T_pack_Reader, .arr xs te] ⟨rfl, rfl, rfl⟩ ⟨?_, rfl⟩
    show bv _ = bv _
    rw [h]; simp
  · have h : (!bad) = false := h
    refine VRet.mk [0, 1] (bv false) [.cells (rdc 1 o n c bad) T_pack_Reader, .arr xs te] ⟨rfl, rfl, rfl⟩ ⟨?_, rfl⟩
    show bv _ = bv _
    rw [h]; simp

theorem brow_get {xs : List Value} {o c : Nat} {l : List Int} (h : Brow xs o c l) {i : Nat} (hi : i < l.length) : xs[o + (i : Int).toNat * 1]? = some (.int .u8 l[i]) := by
  have h1 : ((xs.drop o).take l.length)[i]? = (l.map (Value.int .u8))[i]? := by rw [h.2.2]
  rw [List.getElem?_take_of_lt hi, List.getElem?_drop, List.getElem?_map, List.getElem?_eq_getElem hi] at h1
  rw [Int.toNat_natCast, Nat.mul_one]; exact h1
theorem brow_drop {xs : List Value} {o c : Nat} {l : List Int} (h : Brow xs o c l) {k : Nat} (hk : k ≤ l.length) {o' : Nat} (ho : o' = if c = k then o else o + k * 1) : Brow xs o' (c - k) (l.drop k) := by
  obtain ⟨h1, h2, h3⟩ := h
  refine ⟨by rw [List.length_drop]; omega, ?_, ?_⟩
  · subst ho; split <;> omega
  · rw [List.length_drop, List.map_drop, ← h3]
    subst ho
    split
    · have : l.length - k = 0 := by omega
      rw [this, List.take_zero, List.drop_eq_nil_of_le (by rw [List.length_take]; omega)]
    · rw [List.drop_take, List.drop_drop, Nat.mul_one]
theorem rd_end (i u : Nat) : rd [] i u = none := by simp [rd]
theorem rd_ten (l : List Int) (u : Nat) : rd l 10 u = none := by cases l <;> simp [rd]

structure NXr where
  i : Nat
  u : Int
def NInv (l : List Int) (m : Nat) (x : NXr) : Prop := x.i ≤ m ∧ ((x.i ≤ 9 ∧ ∃ n : Nat, x.u = n ∧ n < 2 ^ (7 * x.i) ∧ rd l 0 0 = rd (l.drop x.i) x.i n) ∨ (x.i = 10 ∧ rd l 0 0 = none))

set_option maxHeartbeats 4000000 in
theorem s_Num (l : List Int) (least most : Int) (o c : Nat) (bad : Bool) (xs : List Value) (te : TypeId) (hb : Brow xs o c l) (hby : ∀ b ∈ l, 0 ≤ b ∧ b < 256) :
    Ctr Tryz.prog F_pack_Reader_Num [.ptr 0 0, iv least, iv most] [.cells (rdc 1 o l.length c bad) T_pack_Reader, .arr xs te]
    (fun x H => (∃ v l', rdN l least most = some (v, l') ∧ x = iv v ∧ ∃ o' c', H = [.cells (rdc 1 o' l'.length c' bad) T_pack_Reader, .arr xs te] ∧ Brow xs o' c' l' ∧ l' <:+ l) ∨
      (rdN l least most = none ∧ x = iv 0 ∧ H = [.cells (rdc 2 0 0 0 true) T_pack_Reader, .arr xs te, .arr [] T_uint8])) := by
  refine i_pack_Reader_Num.spec follows ?_
  have hm : (if (10 : Int) < (l.length : Int) then (10 : Int) else (l.length : Int)).toNat = min l.length 10 := by split <;> omega
  refine And.intro ⟨by split <;> omega, by have := hb.1; split <;> omega⟩ ?_
  generalize (if (10 : Int) < (l.length : Int) then (10 : Int) else (l.length : Int)) = mm at hm ⊢
  refine VLoop.mk NXr (fun x => [(0, .ptr 0 0), (1, iv least), (2, iv most), (7, .raw (.int .u64 x.u)), (21, .sl 1 o mm.toNat c), (22, iv mm.toNat), (23, iv x.i)])
    (fun x => [.cells (rdc 1 o l.length c bad) T_pack_Reader, .arr xs te]) (NInv l mm.toNat) (fun x => mm.toNat - x.i) ⟨0, 0⟩ [0, 1] ⟨⟨Nat.zero_le _, .inl ⟨by simp, 0, rfl, by simp, rfl⟩⟩, rfl, rfl, rfl⟩ ?_
  rintro ⟨i, u⟩ ⟨hi, hinv⟩ g
  simp only at hi hinv
  refine And.intro (fun h => ?_) (fun h => ?_)
  · have h := of_decide_eq_true h
    have him : i < mm.toNat := by simp only at h; omega
    have hil : i < l.length := by omega
    have hi9 : i ≤ 9 := by omega
    obtain ⟨n, hun, hnn, hr0⟩ : ∃ n : Nat, u = n ∧ n < 2 ^ (7 * i) ∧ rd l 0 0 = rd (l.drop i) i n := by
      rcases hinv with ⟨_, h⟩ | ⟨h, _⟩
      · exact h
      · omega
    have hby1 := hby l[i] (List.getElem_mem hil)
    obtain ⟨k, hk⟩ : ∃ k : Nat, l[i] = k := ⟨l[i].toNat, by omega⟩
    have hk256 : k < 256 := by omega
    rw [List.drop_eq_getElem_cons hil] at hr0
    have e1 : intBits .andNot .u8 l[i] 128 = ((k % 128 : Nat) : Int) := by rw [hk]; exact andNot8 hk256
    have e2 : intBits .and .u8 l[i] 128 = ((if 128 ≤ k then 128 else 0 : Nat) : Int) := by rw [hk]; exact and128 hk256
    have hcap : o + mm.toNat * 1 ≤ xs.length := by have := hb.1; have := hb.2.1; omega
    refine And.intro ⟨Int.natCast_nonneg i, h, hcap⟩ ?_
    refine Exists.intro _ (And.intro (brow_get hb hil) ?_)
    refine Exists.intro _ (And.intro e1 ?_)
    refine Exists.intro _ (And.intro (w64u (n := ((k % 128 : Nat) : Int)) (by omega)) ?_)
    have e3 : IntKind.i64.wrap (7 * (i : Int)) = ((7 * i : Nat) : Int) := by rw [wrap64 (by omega)]; omega
    refine Exists.intro _ (And.intro e3 ?_)
    refine And.intro (Int.natCast_nonneg _) (Exists.intro _ (And.intro (shl7 (k % 128) hi9) ?_))
    clear e1 e3
    have hnext : ∀ W : Int, (i ≤ 8 → ∃ n' : Nat, W = n' ∧ n' = n + k % 128 * 2 ^ (7 * i)) → 128 ≤ k → NInv l mm.toNat ⟨i + 1, W⟩ := by
      intro W hW hk
      refine ⟨by simp only; omega, ?_⟩
      simp only
      have hr1 : rd l 0 0 = rd (l.drop (i + 1)) (i + 1) (n + k % 128 * 2 ^ (7 * i)) := by
        rw [hr0, rd, if_neg (by omega), if_pos (by omega)]
        have : l[i].toNat = k := by omega
        rw [this]
      by_cases h8 : i ≤ 8
      · left
        obtain ⟨n', rfl, rfl⟩ := hW h8
        refine ⟨by omega, _, rfl, ?_, hr1⟩
        have h128 : k % 128 + 1 ≤ 128 := by omega
        have := Nat.mul_le_mul_right (2 ^ (7 * i)) h128
        rw [show 7 * (i + 1) = 7 * i + 7 by omega, Nat.pow_add]
        rw [Nat.add_mul, Nat.one_mul] at this
        omega
      · right
        have : i = 9 := by omega
        subst this
        exact ⟨rfl, by rw [hr1, rd_ten]⟩
    have hmu : mm.toNat - (i + 1) < mm.toNat - i := by omega
    have hlast : ¬ 128 ≤ k → rd l 0 0 = if (0 < i ∧ l[i] = 0) ∨ (i = 9 ∧ 1 < l[i]) then none else some (n + k * 2 ^ (7 * i), l.drop (i + 1)) := by
      intro hk2
      rw [hr0, rd, if_neg (by omega), if_neg (by omega)]
      have : l[i].toNat = k := by omega
      rw [this]
    have hfail : (¬ 128 ≤ k ∧ ((0 < i ∧ l[i] = 0) ∨ (i = 9 ∧ 1 < l[i]))) → rdN l least most = none := by
      rintro ⟨h1, h2⟩
      simp only [rdN, hlast h1, if_pos h2]
    by_cases hfit : k % 128 * 2 ^ (7 * i) < 18446744073709551616
    · have hub0 : n + k % 128 * 2 ^ (7 * i) < 18446744073709551616 := orBound hi9 hnn hfit
      have hor : intBits .or .u64 u (((k % 128 * 2 ^ (7 * i)) % 18446744073709551616 : Nat) : Int) = ((n + k % 128 * 2 ^ (7 * i) : Nat) : Int) := by rw [hun, Nat.mod_eq_of_lt hfit]; exact orAdd hi9 hnn hfit
      refine Exists.intro _ (And.intro hor ?_)
      clear hor
      refine Exists.intro _ (And.intro e2 ?_)
      clear e2
      refine And.intro (fun h2 => ?_) (fun h2 => ?_)
      · have hw : IntKind.i64.wrap ((i : Int) + 1) = ((i + 1 : Nat) : Int) := wrap64 (by omega)
        refine Exists.intro _ (And.intro hw ?_)
        exact Exists.intro ⟨i + 1, _⟩ (Exists.intro [0, 1] (And.intro ⟨hnext _ (fun _ => ⟨_, rfl, rfl⟩) (by by_cases h5 : 128 ≤ k; exact h5; simp [h5] at h2), hmu⟩ ⟨rfl, rfl, rfl⟩))
      · have hk128 : ¬ 128 ≤ k := by
          intro h5; simp [h5] at h2
        have hkm : k % 128 = k := by omega
        have hub : n + k % 128 * 2 ^ (7 * i) < 18446744073709551616 := hub0
        rw [hkm] at hub
        have hz : intBits .xor .i64 (((n + k % 128 * 2 ^ (7 * i)) / 2 : Nat) : Int) (IntKind.i64.wrap (0 - (((n + k % 128 * 2 ^ (7 * i)) % 2 : Nat) : Int))) = zig (n + k * 2 ^ (7 * i)) := by
          rw [hkm]; exact xorZig hub
        refine And.intro (by omega) (Exists.intro _ (And.intro (shr1 (n + k % 128 * 2 ^ (7 * i))) ?_))
        refine Exists.intro _ (And.intro (wrap64 (n := (((n + k % 128 * 2 ^ (7 * i)) / 2 : Nat) : Int)) (by omega)) ?_)
        refine Exists.intro _ (And.intro (Go.V.and1 hub0) ?_)
        refine Exists.intro _ (And.intro (wrap64 (n := (((n + k % 128 * 2 ^ (7 * i)) % 2 : Nat) : Int)) (by omega)) ?_)
        refine Exists.intro _ (And.intro rfl ?_)
        refine Exists.intro _ (And.intro hz ?_)
        clear hz
        refine And.intro (fun b1 => ?_) (fun b1 => ?_)
        · have b1 : 0 < (i : Int) := of_decide_eq_true b1
          refine And.intro (fun z1 => ?_) (fun z1 => ?_)
          · have z1 := of_decide_eq_false z1
            refine And.intro (fun a9 => ?_) (fun a9 => ?_)
            · have a9 : (i : Int) = 9 := of_decide_eq_true a9
              refine And.intro (fun a1 => ?_) (fun a1 => ?_)
              · have a1 := of_decide_eq_false a1
                have hnb : ¬ ((0 < i ∧ l[i] = 0) ∨ (i = 9 ∧ 1 < l[i])) := by
                  rintro (h5 | h5)
                  · exact (fun h5 => z1 h5.2) h5
                  · exact a1 h5.2
                refine And.intro (fun g1 => ?_) (fun g1 => ?_)
                · refine And.intro (fun g2 => ?_) (fun g2 => ?_)
                  · refine VCall.mk [0, 1] (s_fail o l.length c bad xs te) ⟨rfl, rfl, rfl⟩ ?_
                    rintro _ _ ⟨rfl, rfl⟩
                    exact VRet.mk [0, 1, 2] (iv 0) [.cells (rdc 2 0 0 0 true) T_pack_Reader, .arr xs te, .arr [] T_uint8] ⟨rfl, rfl, rfl⟩ (.inr ⟨by
                        have h3 := hlast hk128
                        rw [if_neg hnb] at h3
                        simp only [rdN, h3]
                        rw [if_pos (.inr (of_decide_eq_true g2))], rfl, rfl⟩)
                  · have hw : IntKind.i64.wrap ((i : Int) + 1) = ((i + 1 : Nat) : Int) := wrap64 (by omega)
                    refine Exists.intro _ (And.intro hw ?_)
                    refine And.intro ⟨Int.natCast_nonneg _, by omega⟩ ?_
                    refine Exists.intro _ (And.intro rfl ?_)
                    refine VRet.mk [0, 1] (iv _) [.cells (rdc 1 (if c = ((i + 1 : Nat) : Int).toNat then o else o + ((i + 1 : Nat) : Int).toNat * 1) (l.length - (i + 1)) (c - (i + 1)) bad) T_pack_Reader, .arr xs te] ⟨rfl, rfl, rfl⟩ (.inl ⟨zig (n + k * 2 ^ (7 * i)), l.drop (i + 1), ?_, rfl, _, _, ?_, brow_drop hb (by omega) rfl, List.drop_suffix _ _⟩)
                    · have h3 := hlast hk128
                      rw [if_neg hnb] at h3
                      simp only [rdN, h3]
                      rw [if_neg]
                      simp only [not_or]
                      exact ⟨of_decide_eq_false g1, of_decide_eq_false g2⟩
                    · rw [List.length_drop]; rfl
                · refine VCall.mk [0, 1] (s_fail o l.length c bad xs te) ⟨rfl, rfl, rfl⟩ ?_
                  rintro _ _ ⟨rfl, rfl⟩
                  exact VRet.mk [0, 1, 2] (iv 0) [.cells (rdc 2 0 0 0 true) T_pack_Reader, .arr xs te, .arr [] T_uint8] ⟨rfl, rfl, rfl⟩ (.inr ⟨by
                      have h3 := hlast hk128
                      rw [if_neg hnb] at h3
                      simp only [rdN, h3]
                      rw [if_pos (.inl (of_decide_eq_true g1))], rfl, rfl⟩)
              · have a1 : decide (1 < l[i]) = true := a1
                have a1 := of_decide_eq_true a1
                refine VCall.mk [0, 1] (s_fail o l.length c bad xs te) ⟨rfl, rfl, rfl⟩ ?_
                rintro _ _ ⟨rfl, rfl⟩
                exact VRet.mk [0, 1, 2] (iv 0) [.cells (rdc 2 0 0 0 true) T_pack_Reader, .arr xs te, .arr [] T_uint8] ⟨rfl, rfl, rfl⟩ (.inr ⟨hfail ⟨hk128, .inr ⟨by omega, a1⟩⟩, rfl, rfl⟩)
            · have a9 : ¬ (i : Int) = 9 := of_decide_eq_false a9
              have hnb : ¬ ((0 < i ∧ l[i] = 0) ∨ (i = 9 ∧ 1 < l[i])) := by
                rintro (h5 | h5)
                · exact (fun h5 => z1 h5.2) h5
                · exact a9 (by omega)
              refine And.intro (fun g1 => ?_) (fun g1 => ?_)
              · refine And.intro (fun g2 => ?_) (fun g2 => ?_)
                · refine VCall.mk [0, 1] (s_fail o l.length c bad xs te) ⟨rfl, rfl, rfl⟩ ?_
                  rintro _ _ ⟨rfl, rfl⟩
                  exact VRet.mk [0, 1, 2] (iv 0) [.cells (rdc 2 0 0 0 true) T_pack_Reader, .arr xs te, .arr [] T_uint8] ⟨rfl, rfl, rfl⟩ (.inr ⟨by
                      have h3 := hlast hk128
                      rw [if_neg hnb] at h3
                      simp only [rdN, h3]
                      rw [if_pos (.inr (of_decide_eq_true g2))], rfl, rfl⟩)
                · have hw : IntKind.i64.wrap ((i : Int) + 1) = ((i + 1 : Nat) : Int) := wrap64 (by omega)
                  refine Exists.intro _ (And.intro hw ?_)
                  refine And.intro ⟨Int.natCast_nonneg _, by omega⟩ ?_
                  refine Exists.intro _ (And.intro rfl ?_)
                  refine VRet.mk [0, 1] (iv _) [.cells (rdc 1 (if c = ((i + 1 : Nat) : Int).toNat then o else o + ((i + 1 : Nat) : Int).toNat * 1) (l.length - (i + 1)) (c - (i + 1)) bad) T_pack_Reader, .arr xs te] ⟨rfl, rfl, rfl⟩ (.inl ⟨zig (n + k * 2 ^ (7 * i)), l.drop (i + 1), ?_, rfl, _, _, ?_, brow_drop hb (by omega) rfl, List.drop_suffix _ _⟩)
                  · have h3 := hlast hk128
                    rw [if_neg hnb] at h3
                    simp only [rdN, h3]
                    rw [if_neg]
                    simp only [not_or]
                    exact ⟨of_decide_eq_false g1, of_decide_eq_false g2⟩
                  · rw [List.length_drop]; rfl
              · refine VCall.mk [0, 1] (s_fail o l.length c bad xs te) ⟨rfl, rfl, rfl⟩ ?_
                rintro _ _ ⟨rfl, rfl⟩
                exact VRet.mk [0, 1, 2] (iv 0) [.cells (rdc 2 0 0 0 true) T_pack_Reader, .arr xs te, .arr [] T_uint8] ⟨rfl, rfl, rfl⟩ (.inr ⟨by
                    have h3 := hlast hk128
                    rw [if_neg hnb] at h3
                    simp only [rdN, h3]
                    rw [if_pos (.inl (of_decide_eq_true g1))], rfl, rfl⟩)
          · have z1 : decide (l[i] = 0) = true := z1
            have z1 := of_decide_eq_true z1
            refine VCall.mk [0, 1] (s_fail o l.length c bad xs te) ⟨rfl, rfl, rfl⟩ ?_
            rintro _ _ ⟨rfl, rfl⟩
            exact VRet.mk [0, 1, 2] (iv 0) [.cells (rdc 2 0 0 0 true) T_pack_Reader, .arr xs te, .arr [] T_uint8] ⟨rfl, rfl, rfl⟩ (.inr ⟨hfail ⟨hk128, .inl ⟨by omega, z1⟩⟩, rfl, rfl⟩)
        · have b1 : ¬ 0 < (i : Int) := of_decide_eq_false b1
          refine And.intro (fun a9 => ?_) (fun a9 => ?_)
          · have a9 : (i : Int) = 9 := of_decide_eq_true a9
            refine And.intro (fun a1 => ?_) (fun a1 => ?_)
            · have a1 := of_decide_eq_false a1
              have hnb : ¬ ((0 < i ∧ l[i] = 0) ∨ (i = 9 ∧ 1 < l[i])) := by
                rintro (h5 | h5)
                · exact (fun h5 => b1 (by omega)) h5
                · exact a1 h5.2
              refine And.intro (fun g1 => ?_) (fun g1 => ?_)
              · refine And.intro (fun g2 => ?_) (fun g2 => ?_)
                · refine VCall.mk [0, 1] (s_fail o l.length c bad xs te) ⟨rfl, rfl, rfl⟩ ?_
                  rintro _ _ ⟨rfl, rfl⟩
                  exact VRet.mk [0, 1, 2] (iv 0) [.cells (rdc 2 0 0 0 true) T_pack_Reader, .arr xs te, .arr [] T_uint8] ⟨rfl, rfl, rfl⟩ (.inr ⟨by
                      have h3 := hlast hk128
                      rw [if_neg hnb] at h3
                      simp only [rdN, h3]
                      rw [if_pos (.inr (of_decide_eq_true g2))], rfl, rfl⟩)
                · have hw : IntKind.i64.wrap ((i : Int) + 1) = ((i + 1 : Nat) : Int) := wrap64 (by omega)
                  refine Exists.intro _ (And.intro hw ?_)
                  refine And.intro ⟨Int.natCast_nonneg _, by omega⟩ ?_
                  refine Exists.intro _ (And.intro rfl ?_)
                  refine VRet.mk [0, 1] (iv _) [.cells (rdc 1 (if c = ((i + 1 : Nat) : Int).toNat then o else o + ((i + 1 : Nat) : Int).toNat * 1) (l.length - (i + 1)) (c - (i + 1)) bad) T_pack_Reader, .arr xs te] ⟨rfl, rfl, rfl⟩ (.inl ⟨zig (n + k * 2 ^ (7 * i)), l.drop (i + 1), ?_, rfl, _, _, ?_, brow_drop hb (by omega) rfl, List.drop_suffix _ _⟩)
                  · have h3 := hlast hk128
                    rw [if_neg hnb] at h3
                    simp only [rdN, h3]
                    rw [if_neg]
                    simp only [not_or]
                    exact ⟨of_decide_eq_false g1, of_decide_eq_false g2⟩
                  · rw [List.length_drop]; rfl
              · refine VCall.mk [0, 1] (s_fail o l.length c bad xs te) ⟨rfl, rfl, rfl⟩ ?_
                rintro _ _ ⟨rfl, rfl⟩
                exact VRet.mk [0, 1, 2] (iv 0) [.cells (rdc 2 0 0 0 true) T_pack_Reader, .arr xs te, .arr [] T_uint8] ⟨rfl, rfl, rfl⟩ (.inr ⟨by
                    have h3 := hlast hk128
                    rw [if_neg hnb] at h3
                    simp only [rdN, h3]
                    rw [if_pos (.inl (of_decide_eq_true g1))], rfl, rfl⟩)
            · have a1 : decide (1 < l[i]) = true := a1
              have a1 := of_decide_eq_true a1
              refine VCall.mk [0, 1] (s_fail o l.length c bad xs te) ⟨rfl, rfl, rfl⟩ ?_
              rintro _ _ ⟨rfl, rfl⟩
              exact VRet.mk [0, 1, 2] (iv 0) [.cells (rdc 2 0 0 0 true) T_pack_Reader, .arr xs te, .arr [] T_uint8] ⟨rfl, rfl, rfl⟩ (.inr ⟨hfail ⟨hk128, .inr ⟨by omega, a1⟩⟩, rfl, rfl⟩)
          · have a9 : ¬ (i : Int) = 9 := of_decide_eq_false a9
            have hnb : ¬ ((0 < i ∧ l[i] = 0) ∨ (i = 9 ∧ 1 < l[i])) := by
              rintro (h5 | h5)
              · exact (fun h5 => b1 (by omega)) h5
              · exact a9 (by omega)
            refine And.intro (fun g1 => ?_) (fun g1 => ?_)
            · refine And.intro (fun g2 => ?_) (fun g2 => ?_)
              · refine VCall.mk [0, 1] (s_fail o l.length c bad xs te) ⟨rfl, rfl, rfl⟩ ?_
                rintro _ _ ⟨rfl, rfl⟩
                exact VRet.mk [0, 1, 2] (iv 0) [.cells (rdc 2 0 0 0 true) T_pack_Reader, .arr xs te, .arr [] T_uint8] ⟨rfl, rfl, rfl⟩ (.inr ⟨by
                    have h3 := hlast hk128
                    rw [if_neg hnb] at h3
                    simp only [rdN, h3]
                    rw [if_pos (.inr (of_decide_eq_true g2))], rfl, rfl⟩)
              · have hw : IntKind.i64.wrap ((i : Int) + 1) = ((i + 1 : Nat) : Int) := wrap64 (by omega)
                refine Exists.intro _ (And.intro hw ?_)
                refine And.intro ⟨Int.natCast_nonneg _, by omega⟩ ?_
                refine Exists.intro _ (And.intro rfl ?_)
                refine VRet.mk [0, 1] (iv _) [.cells (rdc 1 (if c = ((i + 1 : Nat) : Int).toNat then o else o + ((i + 1 : Nat) : Int).toNat * 1) (l.length - (i + 1)) (c - (i + 1)) bad) T_pack_Reader, .arr xs te] ⟨rfl, rfl, rfl⟩ (.inl ⟨zig (n + k * 2 ^ (7 * i)), l.drop (i + 1), ?_, rfl, _, _, ?_, brow_drop hb (by omega) rfl, List.drop_suffix _ _⟩)
                · have h3 := hlast hk128
                  rw [if_neg hnb] at h3
                  simp only [rdN, h3]
                  rw [if_neg]
                  simp only [not_or]
                  exact ⟨of_decide_eq_false g1, of_decide_eq_false g2⟩
                · rw [List.length_drop]; rfl
            · refine VCall.mk [0, 1] (s_fail o l.length c bad xs te) ⟨rfl, rfl, rfl⟩ ?_
              rintro _ _ ⟨rfl, rfl⟩
              exact VRet.mk [0, 1, 2] (iv 0) [.cells (rdc 2 0 0 0 true) T_pack_Reader, .arr xs te, .arr [] T_uint8] ⟨rfl, rfl, rfl⟩ (.inr ⟨by
                  have h3 := hlast hk128
                  rw [if_neg hnb] at h3
                  simp only [rdN, h3]
                  rw [if_pos (.inl (of_decide_eq_true g1))], rfl, rfl⟩)
    · have h9 : i = 9 ∧ 2 ≤ k % 128 := by
        have hp : ∀ j, j ≤ 8 → 128 * 2 ^ (7 * j) ≤ 18446744073709551616 := by
          intro j hj
          match j, hj with | 0, _ | 1, _ | 2, _ | 3, _ | 4, _ | 5, _ | 6, _ | 7, _ | 8, _ => decide
        by_cases h8 : i ≤ 8
        · exfalso
          have h5 := hp i h8
          have h6 := Nat.mul_lt_mul_of_pos_right (show k % 128 < 128 by omega) (Nat.two_pow_pos (7 * i))
          omega
        · have : i = 9 := by omega
          subst this
          refine ⟨rfl, ?_⟩
          have : (2 : Nat) ^ (7 * 9) = 9223372036854775808 := by decide
          rw [this] at hfit
          omega
      refine Exists.intro _ (And.intro rfl ?_)
      refine Exists.intro _ (And.intro e2 ?_)
      clear e2
      refine And.intro (fun h2 => ?_) (fun h2 => ?_)
      · have hw : IntKind.i64.wrap ((i : Int) + 1) = ((i + 1 : Nat) : Int) := wrap64 (by omega)
        refine Exists.intro _ (And.intro hw ?_)
        exact Exists.intro ⟨i + 1, _⟩ (Exists.intro [0, 1] (And.intro ⟨hnext _ (fun h8 => by omega) (by by_cases h5 : 128 ≤ k; exact h5; simp [h5] at h2), hmu⟩ ⟨rfl, rfl, rfl⟩))
      · have hk128 : ¬ 128 ≤ k := by
          intro h5; simp [h5] at h2
        refine And.intro (by omega) (Exists.intro _ (And.intro rfl ?_))
        refine Exists.intro _ (And.intro rfl ?_)
        refine Exists.intro _ (And.intro rfl ?_)
        refine Exists.intro _ (And.intro rfl ?_)
        refine Exists.intro _ (And.intro rfl ?_)
        refine Exists.intro _ (And.intro rfl ?_)
        refine And.intro (fun b1 => ?_) (fun b1 => absurd (show ¬ 0 < (i : Int) from of_decide_eq_false b1) (by omega))
        refine And.intro (fun z1 => ?_) (fun z1 => ?_)
        · refine And.intro (fun a9 => ?_) (fun a9 => absurd (show ¬ (i : Int) = 9 from of_decide_eq_false a9) (by omega))
          refine And.intro (fun a1 => absurd (of_decide_eq_false a1) (by omega)) (fun a1 => ?_)
          refine VCall.mk [0, 1] (s_fail o l.length c bad xs te) ⟨rfl, rfl, rfl⟩ ?_
          rintro _ _ ⟨rfl, rfl⟩
          exact VRet.mk [0, 1, 2] (iv 0) [.cells (rdc 2 0 0 0 true) T_pack_Reader, .arr xs te, .arr [] T_uint8] ⟨rfl, rfl, rfl⟩ (.inr ⟨hfail ⟨hk128, .inr ⟨h9.1, by omega⟩⟩, rfl, rfl⟩)
        · have z1 : decide (l[i] = 0) = true := z1
          have z1 := of_decide_eq_true z1
          omega
  · have h := of_decide_eq_false h
    have hnone : rdN l least most = none := by
      have hi2 : i = mm.toNat := by simp only at h; omega
      have : rd l 0 0 = none := by
        rcases hinv with ⟨h9, n, _, _, hr⟩ | ⟨_, hr⟩
        · rw [hr, List.drop_eq_nil_of_le (by omega), rd_end]
        · exact hr
      simp [rdN, this]
    refine VCall.mk [0, 1] (s_fail o l.length c bad xs te) ⟨rfl, rfl, rfl⟩ ?_
    rintro _ _ ⟨rfl, rfl⟩
    exact VRet.mk [0, 1, 2] (iv 0) [.cells (rdc 2 0 0 0 true) T_pack_Reader, .arr xs te, .arr [] T_uint8] ⟨rfl, rfl, rfl⟩ (.inr ⟨hnone, rfl, rfl⟩)
end Go.Proofs

namespace Go.Proofs
open Go Go.V
set_option maxRecDepth 100000
set_option linter.unusedVariables false

theorem s_Read (l : List Int) (xs : List Value) (te : TypeId) (o c : Nat) (hb : Brow xs o c l) (hl : l.length ≤ 10000000) :
    Ctr Tryz.prog F_pack_Read [.sl 0 o l.length c] [.arr xs te] (fun x H => ∃ o' c' ys, x = .ptr 2 0 ∧ H = [.arr xs te, .arr ys T_uint8, .cells (rdc 1 o' l.length c' false) T_pack_Reader] ∧ Brow ys o' c' l) := by
  refine i_pack_Read.spec follows ?_
  refine VCall.mk [0] (s_bytes_Clone l xs te o c hb hl) ⟨rfl, rfl, rfl⟩ ?_
  rintro _ _ ⟨o', c', ys, rfl, rfl, hB⟩
  exact VRet.mk [0, 1, 2] (.ptr 2 0) [.arr xs te, .arr ys T_uint8, .cells (rdc 1 o' l.length c' false) T_pack_Reader] ⟨rfl, rfl, rfl⟩ ⟨o', c', ys, rfl, rfl, hB⟩

/-- Numbers of a clock. -/
def rdVs : Nat → List Int → Option ((Nat → Int) × List Int)
  | 0, l => some (fun _ => 0, l)
  | k + 1, l => match rdVs k l with
    | none => none
    | some (v, l') => match rdN l' 0 1099511627776 with
      | none => none
      | some (x, l'') => some (upv v k x, l'')
structure VXr where
  i : Nat
  v : Nat → Int
  st : Option (List Int × Nat × Nat)
theorem s_vec_Get (l : List Int) (o c : Nat) (xs : List Value) (te : TypeId) (hb : Brow xs o c l) (hby : ∀ b ∈ l, 0 ≤ b ∧ b < 256) :
    Ctr Tryz.prog F_vec_Get [.ptr 0 0] [.cells (rdc 1 o l.length c false) T_pack_Reader, .arr xs te]
    (fun x H => (∃ v l', rdVs 7 l = some (v, l') ∧ x = .agg (vcells v) ∧ ∃ o' c', H = [.cells (rdc 1 o' l'.length c' false) T_pack_Reader, .arr xs te] ∧ Brow xs o' c' l' ∧ l' <:+ l) ∨
      (rdVs 7 l = none ∧ x = .agg (vcells fun _ => 0) ∧ H = [.cells (rdc 2 0 0 0 true) T_pack_Reader, .arr xs te, .arr [] T_uint8])) := by
  refine i_vec_Get.spec follows ?_
  refine VLoop.mk VXr (fun x => [(0, .ptr 0 0), (2, .ptr 2 0), (3, .ptr 3 0), (5, iv x.i)])
    (fun x => match x.st with
      | some (l', o', c') => [.cells (rdc 1 o' l'.length c' false) T_pack_Reader, .arr xs te, .cells (vcells fun _ => 0) T_vec_Vec, .cells (vcells x.v) T_vec_Vec]
      | none => [.cells (rdc 4 0 0 0 true) T_pack_Reader, .arr xs te, .cells (vcells fun _ => 0) T_vec_Vec, .cells (vcells x.v) T_vec_Vec, .arr [] T_uint8])
    (fun x => x.i ≤ 7 ∧ match x.st with
      | some (l', o', c') => rdVs x.i l = some (x.v, l') ∧ Brow xs o' c' l' ∧ l' <:+ l
      | none => rdVs x.i l = none) (fun x => 7 - x.i) ⟨0, fun _ => 0, some (l, o, c)⟩ [0, 1, 2, 3] ⟨⟨Nat.zero_le _, rfl, hb, List.suffix_refl _⟩, rfl, rfl, rfl⟩ ?_
  rintro ⟨i, v, _ | ⟨l', o', c'⟩⟩ ⟨hi, hinv⟩ g
  · have hi : i ≤ 7 := hi
    have hinv : rdVs i l = none := hinv
    refine And.intro (fun h => ?_) (fun h => ?_)
    · have h := of_decide_eq_true h
      have hi7 : 0 ≤ (i : Int) ∧ (i : Int) < 7 := ⟨by omega, h⟩
      have hw : IntKind.i64.wrap ((i : Int) + 1) = ((i + 1 : Nat) : Int) := wrap64 (by omega)
      have hn : rdVs (i + 1) l = none := by rw [rdVs, hinv]
      refine VCall.mk [0, 4] (s_Num [] 0 1099511627776 0 0 true [] T_uint8 brow_nil (by simp)) ⟨rfl, rfl, rfl⟩ ?_
      rintro _ _ (⟨x, l2, hr, _⟩ | ⟨_, rfl, rfl⟩)
      · simp [rdN, rd] at hr
      refine And.intro hi7 (Exists.intro _ (And.intro (vcells_put v 0 hi7 []) ?_))
      refine Exists.intro _ (And.intro hw ?_)
      exact Exists.intro ⟨i + 1, upv v (i : Int).toNat 0, none⟩ (Exists.intro [0, 1, 2, 3, 5] (And.intro ⟨⟨by simp only at h ⊢; omega, hn⟩, by simp only at h ⊢; omega⟩ ⟨rfl, rfl, rfl⟩))
    · have h := of_decide_eq_false h
      have h7 : i = 7 := by simp only at h; omega
      subst h7
      refine VCall.mk [0, 4] (s_Bad 0 0 0 true [] T_uint8) ⟨rfl, rfl, rfl⟩ ?_
      rintro _ _ ⟨rfl, rfl⟩
      refine And.intro (fun _ => ?_) (fun h => absurd h (by decide))
      exact VRet.mk [0, 1, 4] (.agg (vcells fun _ => 0)) [.cells (rdc 2 0 0 0 true) T_pack_Reader, .arr xs te, .arr [] T_uint8] ⟨rfl, rfl, rfl⟩ (.inr ⟨hinv, rfl, rfl⟩)
  · have hi : i ≤ 7 := hi
    obtain ⟨hr, hB, hS⟩ : rdVs i l = some (v, l') ∧ Brow xs o' c' l' ∧ l' <:+ l := hinv
    refine And.intro (fun h => ?_) (fun h => ?_)
    · have h := of_decide_eq_true h
      have hi7 : 0 ≤ (i : Int) ∧ (i : Int) < 7 := ⟨by omega, h⟩
      have hw : IntKind.i64.wrap ((i : Int) + 1) = ((i + 1 : Nat) : Int) := wrap64 (by omega)
      refine VCall.mk [0, 1] (s_Num l' 0 1099511627776 o' c' false xs te hB (fun b hb => hby b (hS.subset hb))) ⟨rfl, rfl, rfl⟩ ?_
      rintro _ _ (⟨x, l2, hrN, rfl, o2, c2, rfl, hB2, hS2⟩ | ⟨hrN, rfl, rfl⟩)
      · have hn : rdVs (i + 1) l = some (upv v i x, l2) := by rw [rdVs, hr]; simp only [hrN]
        refine And.intro hi7 (Exists.intro _ (And.intro (vcells_put v x hi7 []) ?_))
        refine Exists.intro _ (And.intro hw ?_)
        exact Exists.intro ⟨i + 1, upv v (i : Int).toNat x, some (l2, o2, c2)⟩ (Exists.intro [0, 1, 2, 3] (And.intro ⟨⟨by simp only at h ⊢; omega, hn, hB2, hS2.trans hS⟩, by simp only at h ⊢; omega⟩ ⟨rfl, rfl, rfl⟩))
      · have hn : rdVs (i + 1) l = none := by rw [rdVs, hr]; simp only [hrN]
        refine And.intro hi7 (Exists.intro _ (And.intro (vcells_put v 0 hi7 []) ?_))
        refine Exists.intro _ (And.intro hw ?_)
        exact Exists.intro ⟨i + 1, upv v (i : Int).toNat 0, none⟩ (Exists.intro [0, 1, 2, 3, 4] (And.intro ⟨⟨by simp only at h ⊢; omega, hn⟩, by simp only at h ⊢; omega⟩ ⟨rfl, rfl, rfl⟩))
    · have h := of_decide_eq_false h
      have h7 : i = 7 := by simp only at h; omega
      subst h7
      refine VCall.mk [0, 1] (s_Bad o' l'.length c' false xs te) ⟨rfl, rfl, rfl⟩ ?_
      rintro _ _ ⟨rfl, rfl⟩
      refine And.intro (fun h => absurd h (by decide)) (fun _ => ?_)
      exact VRet.mk [0, 1] (.agg (vcells v)) [.cells (rdc 1 o' l'.length c' false) T_pack_Reader, .arr xs te] ⟨rfl, rfl, rfl⟩ (.inl ⟨v, l', hr, rfl, o', c', rfl, hB, hS⟩)
end Go.Proofs

