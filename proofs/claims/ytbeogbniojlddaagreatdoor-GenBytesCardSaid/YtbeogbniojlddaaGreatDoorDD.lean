/- Part of the proof that the statement named in the last file holds: lemmas of the prover's own. No conditions. -/
import Derived.Test.YtbeogbniojlddaaGreatDoorDC
import Derived.Test.YtbeogbniojlddaaGreatDoorVD
namespace Go.Proofs
open Go Go.V Go.Lib
set_option maxRecDepth 100000
set_option linter.unusedVariables false

/-! ### Bytes -/
theorem brow_nil_of {xs : List Value} {o c : Nat} {l : List Int} (h : Brow xs o c l) (hx : xs = []) : l = [] := by
  subst hx
  have := h.1; have := h.2.1
  simp at this
  exact List.length_eq_zero_iff.1 (by omega)
theorem brow_nil : Brow [] 0 0 [] := ⟨Nat.le_refl _, by simp, rfl⟩
theorem s_bytes_Clone (l : List Int) (xs : List Value) (te : TypeId) (o c : Nat) (hb : Brow xs o c l) (hl : l.length ≤ 10000000) :
    Ctr Tryz.prog F_bytes_Clone [.sl 0 o l.length c] [.arr xs te] (fun x H => ∃ o' c' ys, x = .sl 1 o' l.length c' ∧ H = [.arr xs te, .arr ys T_uint8] ∧ Brow ys o' c' l) := by
  refine i_bytes_Clone.spec follows ?_
  refine fun b hbn => ?_
  refine And.intro (fun h => ?_) (fun _ => ?_)
  · have hx : xs = [] := by
      refine Classical.byContradiction fun hn => ?_
      rw [hbn hn] at h; cases h
    have hl0 := brow_nil_of hb hx
    refine VRet.nil T_uint8 [0] [] ⟨rfl, rfl⟩ (VRet.mk [0, 1] (.sl 1 0 0 0) [.arr xs te, .arr [] T_uint8] ⟨rfl, rfl, rfl⟩ ⟨0, 0, [], ?_, rfl, ?_⟩)
    · rw [hl0]; rfl
    · rw [hl0]; exact brow_nil
  refine And.intro ⟨⟨Nat.zero_le _, by simp, rfl⟩, ⟨?_, ?_⟩, by omega⟩ ?_
  · rw [hb.take1]; simp
  · rw [hb.take1]; exact cellsOK_ints l
  intro zs' o' c' hz
  refine VRet.mk [0, 2] (.sl 1 o' (0 + l.length) c') [.arr xs te, .arr zs' T_uint8] ⟨rfl, rfl, rfl⟩ ⟨o', c', zs', ?_, rfl, ?_, ?_, ?_⟩
  · show SV.sl 1 o' (0 + l.length) c' = _; rw [Nat.zero_add]
  · omega
  · omega
  · have := hz.2.2
    rw [hb.take1] at this
    simpa using this
structure BX where
  xs : List Value
  o : Nat
  c : Nat
  l : List Int
  u : Nat
theorem s_pack_Num (l : List Int) (xs : List Value) (te : TypeId) (o c : Nat) (hb : Brow xs o c l) (hl : l.length ≤ 9000000) (v : Int) (hv : 0 ≤ v ∧ v < 4611686018427387904) :
    Ctr Tryz.prog F_pack_Num [.sl 0 o l.length c, iv v] [.arr xs te] (fun x H => ∃ o' c' ys, x = .sl 1 o' (l ++ Go.V.numB (2 * v.toNat)).length c' ∧ H = [.arr xs te, .arr ys T_uint8] ∧ Brow ys o' c' (l ++ Go.V.numB (2 * v.toNat))) := by
  refine i_pack_Num.spec follows ?_
  have hlen := numB_len10 (u := 2 * v.toNat) (by omega)
  refine VCall.mk [0] (s_bytes_Clone l xs te o c hb (by omega)) ⟨rfl, rfl, rfl⟩ ?_
  rintro _ _ ⟨o1, c1, ys1, rfl, rfl, hb1⟩
  refine Exists.intro _ (And.intro (w64u (n := v) (by omega)) ?_)
  refine And.intro (by omega) (Exists.intro _ (And.intro (shl1 hv) ?_))
  refine And.intro (by omega) (Exists.intro _ (And.intro (shr63 hv) ?_))
  refine Exists.intro _ (And.intro (w64u (n := 0) (by omega)) ?_)
  refine Exists.intro _ (And.intro (xor0 (u := 2 * v.toNat) (by omega)) ?_)
  refine VLoop.mk BX (fun x => [(5, .sl 1 x.o x.l.length x.c), (6, .raw (.int .u64 (x.u : Int)))])
    (fun x => [.arr xs te, .arr x.xs T_uint8])
    (fun x => Brow x.xs x.o x.c x.l ∧ x.l ++ Go.V.numB x.u = l ++ Go.V.numB (2 * v.toNat) ∧ x.u < 18446744073709551616) (fun x => x.u) ⟨ys1, o1, c1, l, 2 * v.toNat⟩ [0, 1] ⟨⟨hb1, rfl, by simp only; omega⟩, rfl, rfl, rfl⟩ ?_
  clear hb1
  rintro ⟨xs2, o2, c2, l2, u⟩ ⟨hB, hN, hu64⟩ g
  simp only at hB hN hu64
  have hNl := congrArg List.length hN
  simp only [List.length_append] at hNl
  have hlu : l2.length ≤ 10000000 := by omega
  refine And.intro (fun h => ?_) (fun h => ?_)
  · have h := of_decide_eq_true h
    have hu : ¬ u < 128 := by simp only at h; omega
    refine Exists.intro _ (And.intro (Go.V.w8 u) ?_)
    refine Exists.intro _ (And.intro (Go.V.or8 u) ?_)
    refine And.intro ⟨⟨hB.1, by have := hB.2.1; simpa using this, rfl⟩, ⟨rfl, rfl⟩, by simp only; omega⟩ ?_
    intro zs' o' c' hz
    refine And.intro (by omega) (Exists.intro _ (And.intro (Go.V.sh7 u) ?_))
    refine Exists.intro ⟨zs', o', c', l2 ++ [((u % 128 + 128 : Nat) : Int)], u / 128⟩ (Exists.intro [0, 3] (And.intro ⟨⟨⟨?_, ?_, ?_⟩, ?_, by show u / 128 < _; omega⟩, ?_⟩ ⟨?_, rfl, rfl⟩))
    · have := hz.1; simp only at this; simp; omega
    · have := hz.2.1; simpa using this
    · have := hz.2.2
      simp only at this
      rw [hB.take1] at this
      simpa using this
    · rw [← hN, numB_ge hu, List.append_assoc]; rfl
    · show u / 128 < u; omega
    · show [nkb (.sl 3 o' (l2.length + 1) c'), _] = [nkb (.sl 3 o' (l2 ++ [((u % 128 + 128 : Nat) : Int)]).length c'), _]
      rw [List.length_append]; rfl
  · have h := of_decide_eq_false h
    have hu : u < 128 := by simp only at h; omega
    refine Exists.intro _ (And.intro (Go.V.w8 u) ?_)
    refine And.intro ⟨⟨hB.1, by have := hB.2.1; simpa using this, rfl⟩, ⟨rfl, rfl⟩, by simp only; omega⟩ ?_
    intro zs' o' c' hz
    have hm : u % 256 = u := by omega
    rw [numB_lt hu] at hN
    refine VRet.mk [0, 3] (.sl 1 o' (l2.length + 1) c') [.arr xs te, .arr zs' T_uint8] ⟨rfl, rfl, rfl⟩ ⟨o', c', zs', ?_, rfl, ?_⟩
    · show SV.sl 1 o' (l2.length + 1) c' = _; rw [← hN, List.length_append]; rfl
    · rw [← hN]
      refine ⟨?_, ?_, ?_⟩
      · have := hz.1; simp only at this; simp; omega
      · have := hz.2.1; simpa using this
      · have := hz.2.2
        simp only at this
        rw [hB.take1, hm] at this
        simpa using this
def vecB (v : Nat → Int) : Nat → List Int
  | 0 => []
  | n + 1 => vecB v n ++ Go.V.numB (2 * (v n).toNat)
theorem vecB_len {v : Nat → Int} (hv : ∀ r, r < 7 → 0 ≤ v r ∧ v r ≤ 1099511627776) : ∀ n, n ≤ 7 → (vecB v n).length ≤ 10 * n
  | 0, _ => by simp [vecB]
  | n + 1, h => by
    have := vecB_len hv n (by omega)
    have := hv n (by omega)
    have := numB_len10 (u := 2 * (v n).toNat) (by omega)
    rw [vecB, List.length_append]; omega

theorem s_vec_Put (l : List Int) (xs : List Value) (te : TypeId) (o c : Nat) (hb : Brow xs o c l) (hl : l.length ≤ 8000000) (v : Nat → Int) (hv : ∀ r, r < 7 → 0 ≤ v r ∧ v r ≤ 1099511627776) :
    Ctr Tryz.prog F_vec_Put [.sl 0 o l.length c, .agg (vcells v)] [.arr xs te] (fun x H => ∃ o' c' ys, x = .sl 1 o' (l ++ vecB v 7).length c' ∧ H = [.arr xs te, .arr ys T_uint8] ∧ Brow ys o' c' (l ++ vecB v 7)) := by
  refine i_vec_Put.spec follows ?_
  refine VLoop.mk (Option BX) (fun x => match x with | none => [(0, .sl 0 o l.length c), (7, .agg (vcells v)), (8, iv (0 : Nat))] | some x => [(0, .sl 1 x.o x.l.length x.c), (7, .agg (vcells v)), (8, iv (x.u : Nat))])
    (fun x => match x with | none => [.arr xs te] | some x => [.arr xs te, .arr x.xs T_uint8])
    (fun x => match x with | none => True | some x => Brow x.xs x.o x.c x.l ∧ x.l = l ++ vecB v x.u ∧ x.u ≤ 7) (fun x => match x with | none => 8 | some x => 7 - x.u) none [0] ⟨trivial, rfl, rfl, rfl⟩ ?_
  rintro (_ | ⟨xs2, o2, c2, l2, i⟩) hinv g
  · refine And.intro (fun _ => ?_) (fun h => absurd h (by decide))
    have := hv 0 (by omega)
    refine And.intro ⟨by omega, by omega⟩ (Exists.intro _ (And.intro rfl ?_))
    refine VCall.mk [0] (s_pack_Num l xs te o c hb (by omega) (v 0) (by omega)) ⟨rfl, rfl, rfl⟩ ?_
    rintro _ _ ⟨o', c', ys, rfl, rfl, hB⟩
    refine Exists.intro _ (And.intro (wrap64 (n := ((0 : Nat) : Int) + 1) (by omega)) ?_)
    exact Exists.intro (some ⟨ys, o', c', l ++ Go.V.numB (2 * (v 0).toNat), 1⟩) (Exists.intro [0, 1] (And.intro ⟨⟨hB, by simp [vecB], by show 1 ≤ 7; omega⟩, by show 7 - 1 < 8; omega⟩ ⟨rfl, rfl, rfl⟩))
  have hinv : Brow xs2 o2 c2 l2 ∧ l2 = l ++ vecB v i ∧ i ≤ 7 := hinv
  obtain ⟨hB, rfl, hi⟩ := hinv
  have hvl := vecB_len hv i hi
  refine And.intro (fun h => ?_) (fun h => ?_)
  · have h := of_decide_eq_true h
    have hi7 : 0 ≤ (i : Int) ∧ (i : Int) < 7 := ⟨by omega, h⟩
    have hvi := hv i (by simp only at h; omega)
    have hw : IntKind.i64.wrap ((i : Int) + 1) = ((i + 1 : Nat) : Int) := wrap64 (by omega)
    have hg : (vcells v)[(i : Int).toNat * 1]? = some (iv (v (i : Int).toNat)) := by have := vcells_get' v hi7 []; simpa using this
    refine And.intro hi7 (Exists.intro _ (And.intro hg ?_))
    refine VCall.mk [1] (s_pack_Num (l ++ vecB v i) xs2 T_uint8 o2 c2 hB (by rw [List.length_append]; omega) (v (i : Int).toNat) (by rw [Int.toNat_natCast]; omega)) ⟨rfl, rfl, rfl⟩ ?_
    rintro _ _ ⟨o', c', ys, rfl, rfl, hB'⟩
    refine Exists.intro _ (And.intro hw ?_)
    refine Exists.intro (some ⟨ys, o', c', l ++ vecB v i ++ Go.V.numB (2 * (v (i : Int).toNat).toNat), i + 1⟩) (Exists.intro [0, 2] (And.intro ⟨⟨hB', ?_, by show i + 1 ≤ 7; simp only at h; omega⟩, ?_⟩ ⟨rfl, rfl, rfl⟩))
    · rw [Int.toNat_natCast, List.append_assoc]; rfl
    · show 7 - (i + 1) < 7 - i; simp only at h; omega
  · have h := of_decide_eq_false h
    have h7 : i = 7 := by simp only at h; omega
    subst h7
    exact VRet.mk [0, 1] (.sl 1 o2 (l ++ vecB v 7).length c2) [.arr xs te, .arr xs2 T_uint8] ⟨rfl, rfl, rfl⟩ ⟨o2, c2, xs2, rfl, rfl, hB⟩
end Go.Proofs

namespace Go.Proofs
open Go Go.V Go.Lib
set_option maxRecDepth 100000
set_option linter.unusedVariables false

theorem s_pack_Bytes (l m : List Int) (xs zs : List Value) (te te2 : TypeId) (o c o2 c2 : Nat) (hb : Brow xs o c l) (hb2 : Brow zs o2 c2 m) (hl : l.length ≤ 8000000) (hm : m.length ≤ 500000) :
    Ctr Tryz.prog F_pack_Bytes [.sl 0 o l.length c, .sl 1 o2 m.length c2] [.arr xs te, .arr zs te2]
      (fun x H => ∃ o' c' ys, x = .sl 2 o' (l ++ Go.V.numB (2 * m.length) ++ m).length c' ∧ H = [.arr xs te, .arr zs te2, .arr ys T_uint8] ∧ Brow ys o' c' (l ++ Go.V.numB (2 * m.length) ++ m)) := by
  refine i_pack_Bytes.spec follows ?_
  have hn := numB_len10 (u := 2 * m.length) (by omega)
  have hN := s_pack_Num l xs te o c hb (by omega) (m.length : Int) (by omega)
  rw [Int.toNat_natCast] at hN
  refine VCall.mk [0] hN ⟨rfl, rfl, rfl⟩ ?_
  rintro _ _ ⟨o1, c1, ys1, rfl, rfl, hb1⟩
  have hlen : (l ++ Go.V.numB (2 * m.length)).length ≤ 8000010 := by rw [List.length_append]; omega
  refine And.intro ⟨⟨hb1.1, by have := hb1.2.1; simpa using this, rfl⟩, ⟨?_, ?_⟩, by omega⟩ ?_
  · rw [hb2.take1]; simp
  · rw [hb2.take1]; exact cellsOK_ints m
  intro zs' o' c' hz
  refine VRet.mk [0, 1, 3] (.sl 2 o' ((l ++ Go.V.numB (2 * m.length)).length + m.length) c') [.arr xs te, .arr zs te2, .arr zs' T_uint8] ⟨rfl, rfl, rfl⟩ ⟨o', c', zs', ?_, rfl, ?_, ?_, ?_⟩
  · rw [List.length_append (bs := m)]
  · have := hz.1; rw [List.length_append (bs := m)]; exact this
  · have := hz.2.1; simpa using this
  · have := hz.2.2
    rw [hb2.take1, hb1.take1, Nat.mul_one] at this
    rw [List.length_append (bs := m), List.map_append (l₂ := m)]
    exact this
def strL (s : ByteArray) : List Int := s.data.toList.map fun b => (b.toNat : Int)
theorem strL_len (s : ByteArray) : (strL s).length = s.size := by simp [strL]
def textB (s : ByteArray) : List Int := Go.V.numB (2 * s.size) ++ strL s
theorem s_pack_Text (l : List Int) (s : ByteArray) (xs : List Value) (te : TypeId) (o c : Nat) (hb : Brow xs o c l) (hl : l.length ≤ 8000000) (hs : s.size ≤ 1000) :
    Ctr Tryz.prog F_pack_Text [.sl 0 o l.length c, .raw (.string s)] [.arr xs te]
      (fun x H => ∃ o' c' ys, x = .sl 1 o' (l ++ textB s).length c' ∧ H = [.arr xs te, .arr ys T_uint8] ∧ Brow ys o' c' (l ++ textB s)) := by
  refine i_pack_Text.spec follows ?_
  refine fun cp hcp => ?_
  have hbs : Brow (s.data.toList.map (fun b => Value.int .u8 b.toNat) ++ List.replicate (cp - s.size) (.int .u8 0)) 0 cp (strL s) := by
    refine ⟨by rw [strL_len]; exact hcp, ?_, ?_⟩
    · have : s.data.toList.length = s.size := by simp
      simp only [List.length_append, List.length_map, List.length_replicate]; omega
    · rw [List.drop_zero, strL_len]
      have : (s.data.toList.map (fun b => Value.int .u8 b.toNat)).length = s.size := by simp
      rw [List.take_append_of_le_length (by omega), List.take_of_length_le (by omega), strL, List.map_map]
      rfl
  have hB := s_pack_Bytes l (strL s) xs _ te T_uint8 o c 0 cp hb hbs hl (by rw [strL_len]; omega)
  rw [strL_len] at hB
  refine VCall.mk [0, 1] hB ⟨rfl, rfl, rfl⟩ ?_
  rintro _ _ ⟨o1, c1, ys1, rfl, rfl, hb1⟩
  rw [List.append_assoc] at hb1
  refine VRet.mk [0, 2] (.sl 1 o1 (l ++ Go.V.numB (2 * s.size) ++ strL s).length c1) [.arr xs te, .arr ys1 T_uint8] ⟨rfl, rfl, rfl⟩ ⟨o1, c1, ys1, ?_, rfl, hb1⟩
  rw [List.append_assoc]; rfl
end Go.Proofs

namespace Go.Proofs
open Go Go.V Go.Lib
set_option maxRecDepth 100000
set_option linter.unusedVariables false

/-! ### A step's bytes -/
def zB (v : Int) : List Int := Go.V.numB (2 * v.toNat)
/-- What holds of a step that was taken: all its numbers are small. -/
structure Sm (s : ST) : Prop where
  k : 0 ≤ s.kind ∧ s.kind ≤ 7
  r : 0 ≤ s.rep ∧ s.rep ≤ 6
  n : 0 ≤ s.n ∧ s.n ≤ 1099511627776
  v : ∀ r, r < 7 → 0 ≤ s.seen r ∧ s.seen r ≤ 1099511627776
  reds : 0 ≤ s.reds ∧ s.reds ≤ 1000
  nm : s.name.size ≤ 1000
  us : s.user.size ≤ 1000
  ar : 0 ≤ s.ar ∧ s.ar ≤ 6
  an : 0 ≤ s.an ∧ s.an ≤ 1099511627776
  br : 0 ≤ s.br ∧ s.br ≤ 6
  bn : 0 ≤ s.bn ∧ s.bn ≤ 1099511627776
  am : 0 ≤ s.amount ∧ s.amount ≤ 1000000000
  fu : 0 ≤ s.funds ∧ s.funds ≤ 1125899906842624
theorem point_sm {r n : Int} {b : Bool} (h : pointB r n b = true) : (0 ≤ r ∧ r ≤ 6) ∧ 0 ≤ n ∧ n ≤ 1099511627776 := by
  cases b <;> simp [pointB, isDot, isRep] at h <;> omega
theorem num_sm {n lo hi : Int} {b : Bool} (h : numB n lo hi b = true) (h0 : 0 ≤ lo) (h1 : lo ≤ hi) : 0 ≤ n ∧ n ≤ hi := by
  cases b <;> simp [numB] at h <;> omega
theorem good_sm {s : ST} (h : goodT s = true) (h1 : s.name.size ≤ 1000) (h2 : s.user.size ≤ 1000) : Sm s := by
  have hd := good_dot h
  simp only [goodT, headT, partT, Bool.and_eq_true, decide_eq_true_eq] at h
  obtain ⟨⟨a1, a2, a3, a4, a5, a6⟩, _, b1, b2, b3, b4, b5, b6⟩ := h
  have p1 := point_sm b3
  have p2 := point_sm b4
  exact ⟨by omega, by omega, by omega, fun r hr => vgoodB_iff.1 a4 r hr, ⟨a5, a6⟩, h1, h2, p1.1, p1.2, p2.1, p2.2, num_sm b5 (by omega) (by omega), num_sm b6 (by omega) (by omega)⟩
def putB (s : ST) : List Int := zB s.kind ++ (zB s.rep ++ (zB s.n ++ (vecB s.seen 7 ++ (zB s.reds ++ (textB s.name ++ (textB s.user ++ (zB s.ar ++ (zB s.an ++ (zB s.br ++ (zB s.bn ++ (zB s.amount ++ zB s.funds)))))))))))
theorem zB_len {v : Int} (h : v < 4611686018427387904) : (zB v).length ≤ 10 := numB_len10 (by omega)
theorem textB_len {s : ByteArray} (h : s.size ≤ 1000) : (textB s).length ≤ 1010 := by
  rw [textB, List.length_append, strL_len]
  have := numB_len10 (u := 2 * s.size) (by omega)
  omega
theorem putB_len {s : ST} (h : Sm s) : (putB s).length ≤ 2200 := by
  have h1 := zB_len (v := s.kind) (by have := h.k; omega)
  have h2 := zB_len (v := s.rep) (by have := h.r; omega)
  have h3 := zB_len (v := s.n) (by have := h.n; omega)
  have h4 := vecB_len h.v 7 (by omega)
  have h5 := zB_len (v := s.reds) (by have := h.reds; omega)
  have h6 := textB_len h.nm
  have h7 := textB_len h.us
  have h8 := zB_len (v := s.ar) (by have := h.ar; omega)
  have h9 := zB_len (v := s.an) (by have := h.an; omega)
  have h10 := zB_len (v := s.br) (by have := h.br; omega)
  have h11 := zB_len (v := s.bn) (by have := h.bn; omega)
  have h12 := zB_len (v := s.amount) (by have := h.am; omega)
  have h13 := zB_len (v := s.funds) (by have := h.fu; omega)
  simp only [putB, List.length_append]
  omega
def ptsB (s : ST) : Nat → List Int
  | 0 => []
  | 1 => zB s.ar ++ zB s.an
  | _ => zB s.ar ++ zB s.an ++ (zB s.br ++ zB s.bn)
theorem s_auct_put (l : List Int) (xs : List Value) (te : TypeId) (o c : Nat) (hb : Brow xs o c l) (hl : l.length ≤ 7000000) (s : ST) (hs : Sm s) :
    Ctr Tryz.prog F_auct_put [.sl 0 o l.length c, .agg (stcells s)] [.arr xs te] (fun x H => ∃ o' c' ys, x = .sl 1 o' (l ++ putB s).length c' ∧ H = [.arr xs te, .arr ys T_uint8] ∧ Brow ys o' c' (l ++ putB s)) := by
  have h1 := zB_len (v := s.kind) (by have := hs.k; omega)
  have h2 := zB_len (v := s.rep) (by have := hs.r; omega)
  have h3 := zB_len (v := s.n) (by have := hs.n; omega)
  have h4 := vecB_len hs.v 7 (by omega)
  have h5 := zB_len (v := s.reds) (by have := hs.reds; omega)
  have h6 := textB_len hs.nm
  have h7 := textB_len hs.us
  refine i_auct_put.spec follows ?_
  refine VCall.mk [0] (s_pack_Num l xs te o c hb (by omega) s.kind (by have := hs.k; omega)) ⟨rfl, rfl, rfl⟩ ?_
  rintro _ _ ⟨o1, c1, y1, rfl, rfl, b1⟩
  refine And.intro rfl ?_
  refine And.intro rfl ?_
  refine VCall.mk [2] (s_pack_Num (l ++ zB s.kind) y1 T_uint8 o1 c1 b1 (by simp only [List.length_append]; omega) s.rep (by have := hs.r; omega)) ⟨rfl, rfl, rfl⟩ ?_
  rintro _ _ ⟨o2, c2, y2, rfl, rfl, b2⟩
  refine And.intro rfl ?_
  refine VCall.mk [3] (s_pack_Num ((l ++ zB s.kind) ++ zB s.rep) y2 T_uint8 o2 c2 b2 (by simp only [List.length_append]; omega) s.n (by have := hs.n; omega)) ⟨rfl, rfl, rfl⟩ ?_
  rintro _ _ ⟨o3, c3, y3, rfl, rfl, b3⟩
  refine VCall.mk [4] (s_vec_Put (((l ++ zB s.kind) ++ zB s.rep) ++ zB s.n) y3 T_uint8 o3 c3 b3 (by simp only [List.length_append]; omega) s.seen hs.v) ⟨rfl, rfl, rfl⟩ ?_
  rintro _ _ ⟨o4, c4, y4, rfl, rfl, b4⟩
  refine And.intro rfl ?_
  refine VCall.mk [5] (s_pack_Num ((((l ++ zB s.kind) ++ zB s.rep) ++ zB s.n) ++ vecB s.seen 7) y4 T_uint8 o4 c4 b4 (by simp only [List.length_append]; omega) s.reds (by have := hs.reds; omega)) ⟨rfl, rfl, rfl⟩ ?_
  rintro _ _ ⟨o5, c5, y5, rfl, rfl, b5⟩
  refine VCall.mk [6] (s_pack_Text (((((l ++ zB s.kind) ++ zB s.rep) ++ zB s.n) ++ vecB s.seen 7) ++ zB s.reds) s.name y5 T_uint8 o5 c5 b5 (by simp only [List.length_append]; omega) hs.nm) ⟨rfl, rfl, rfl⟩ ?_
  rintro _ _ ⟨o6, c6, y6, rfl, rfl, b6⟩
  refine And.intro rfl ?_
  refine VCall.mk [7] (s_pack_Text ((((((l ++ zB s.kind) ++ zB s.rep) ++ zB s.n) ++ vecB s.seen 7) ++ zB s.reds) ++ textB s.name) s.user y6 T_uint8 o6 c6 b6 (by simp only [List.length_append]; omega) hs.us) ⟨rfl, rfl, rfl⟩ ?_
  rintro _ _ ⟨o7, c7, y7, rfl, rfl, b7⟩
  have hL0 : ((((((((l ++ zB s.kind) ++ zB s.rep) ++ zB s.n) ++ vecB s.seen 7) ++ zB s.reds) ++ textB s.name) ++ textB s.user)).length ≤ l.length + 2130 := by simp only [List.length_append]; omega
  have hcur : ∃ L0, L0 = (((((((l ++ zB s.kind) ++ zB s.rep) ++ zB s.n) ++ vecB s.seen 7) ++ zB s.reds) ++ textB s.name) ++ textB s.user) := ⟨_, rfl⟩
  refine VLoop.mk BX (fun y => [(0, .sl 3 y.o y.l.length y.c), (3, .ptr 1 0), (37, .sl 2 0 2 2), (38, iv 2), (39, iv (y.u : Nat))])
    (fun y => [.arr xs te, .cells (stcells s) T_auct_Step, .arr [.int .i64 s.ar, .int .i64 s.an, .int .i64 s.br, .int .i64 s.bn] T_api_Dot, .arr y.xs T_uint8])
    (fun y => Brow y.xs y.o y.c y.l ∧ y.u ≤ 2 ∧ y.l = (((((((l ++ zB s.kind) ++ zB s.rep) ++ zB s.n) ++ vecB s.seen 7) ++ zB s.reds) ++ textB s.name) ++ textB s.user) ++ ptsB s y.u) (fun y => 2 - y.u) ⟨y7, o7, c7, (((((((l ++ zB s.kind) ++ zB s.rep) ++ zB s.n) ++ vecB s.seen 7) ++ zB s.reds) ++ textB s.name) ++ textB s.user), 0⟩ [0, 1, 9, 8]
    ⟨⟨b7, Nat.zero_le _, by simp [ptsB]⟩, rfl, rfl, rfl⟩ ?_
  have hp1 := zB_len (v := s.ar) (by have := hs.ar; omega)
  have hp2 := zB_len (v := s.an) (by have := hs.an; omega)
  have hp3 := zB_len (v := s.br) (by have := hs.br; omega)
  have hp4 := zB_len (v := s.bn) (by have := hs.bn; omega)
  clear b1 b2 b3 b4 b5 b6 b7
  rintro ⟨ys, o8, c8, l8, i⟩ ⟨hb8, hi, hl8⟩ g
  simp only at hb8 hi hl8
  have hll := congrArg List.length hl8
  match i, hi with
  | 0, _ =>
    have hll : l8.length ≤ l.length + 2130 := by rw [hll, List.length_append]; simp only [ptsB, List.length_nil, List.length_append]; omega
    refine And.intro (fun _ => ?_) (fun h => absurd h (show ¬ decide (((0 : Nat) : Int) < 2) = false by decide))
    refine And.intro ⟨show (0 : Int) ≤ ((0 : Nat) : Int) by decide, show ((0 : Nat) : Int) < ((2 : Nat) : Int) by decide, Nat.le_refl 4⟩ (Exists.intro _ (And.intro rfl ?_))
    refine VCall.mk [3] (s_pack_Num l8 ys T_uint8 o8 c8 hb8 (by omega) s.ar (by have := hs.ar; omega)) ⟨rfl, rfl, rfl⟩ ?_
    rintro _ _ ⟨o9, c9, y9, rfl, rfl, b9⟩
    refine And.intro rfl ?_
    refine VCall.mk [5] (s_pack_Num (l8 ++ zB s.ar) y9 T_uint8 o9 c9 b9 (by rw [List.length_append]; omega) s.an (by have := hs.an; omega)) ⟨rfl, rfl, rfl⟩ ?_
    rintro _ _ ⟨o10, c10, y10, rfl, rfl, b10⟩
    refine Exists.intro _ (And.intro (show IntKind.i64.wrap (((0 : Nat) : Int) + 1) = ((1 : Nat) : Int) by decide) ?_)
    refine Exists.intro ⟨y10, o10, c10, l8 ++ zB s.ar ++ zB s.an, 1⟩ (Exists.intro [0, 1, 2, 6] (And.intro ⟨⟨b10, show 1 ≤ 2 by decide, ?_⟩, show 2 - 1 < 2 - 0 by decide⟩ ⟨rfl, rfl, rfl⟩))
    simp only
    rw [hl8]
    simp only [ptsB, List.append_assoc, List.append_nil, List.nil_append]
  | 1, _ =>
    have hll : l8.length ≤ l.length + 2150 := by rw [hll, List.length_append]; simp only [ptsB, List.length_nil, List.length_append]; omega
    refine And.intro (fun _ => ?_) (fun h => absurd h (show ¬ decide (((1 : Nat) : Int) < 2) = false by decide))
    refine And.intro ⟨show (0 : Int) ≤ ((1 : Nat) : Int) by decide, show ((1 : Nat) : Int) < ((2 : Nat) : Int) by decide, Nat.le_refl 4⟩ (Exists.intro _ (And.intro rfl ?_))
    refine VCall.mk [3] (s_pack_Num l8 ys T_uint8 o8 c8 hb8 (by omega) s.br (by have := hs.br; omega)) ⟨rfl, rfl, rfl⟩ ?_
    rintro _ _ ⟨o9, c9, y9, rfl, rfl, b9⟩
    refine And.intro rfl ?_
    refine VCall.mk [5] (s_pack_Num (l8 ++ zB s.br) y9 T_uint8 o9 c9 b9 (by rw [List.length_append]; omega) s.bn (by have := hs.bn; omega)) ⟨rfl, rfl, rfl⟩ ?_
    rintro _ _ ⟨o10, c10, y10, rfl, rfl, b10⟩
    refine Exists.intro _ (And.intro (show IntKind.i64.wrap (((1 : Nat) : Int) + 1) = ((2 : Nat) : Int) by decide) ?_)
    refine Exists.intro ⟨y10, o10, c10, l8 ++ zB s.br ++ zB s.bn, 2⟩ (Exists.intro [0, 1, 2, 6] (And.intro ⟨⟨b10, show 2 ≤ 2 by decide, ?_⟩, show 2 - 2 < 2 - 1 by decide⟩ ⟨rfl, rfl, rfl⟩))
    simp only
    rw [hl8]
    simp only [ptsB, List.append_assoc, List.append_nil, List.nil_append]
  | 2, _ =>
    have hll : l8.length ≤ l.length + 2170 := by rw [hll, List.length_append]; simp only [ptsB, List.length_append]; omega
    have hp5 := zB_len (v := s.amount) (by have := hs.am; omega)
    refine And.intro (fun h => absurd h (show ¬ decide (((2 : Nat) : Int) < 2) = true by decide)) (fun _ => ?_)
    refine VCall.mk [3] (s_pack_Num l8 ys T_uint8 o8 c8 hb8 (by omega) s.amount (by have := hs.am; omega)) ⟨rfl, rfl, rfl⟩ ?_
    rintro _ _ ⟨o9, c9, y9, rfl, rfl, b9⟩
    refine And.intro rfl ?_
    refine VCall.mk [4] (s_pack_Num (l8 ++ zB s.amount) y9 T_uint8 o9 c9 b9 (by rw [List.length_append]; omega) s.funds (by have := hs.fu; omega)) ⟨rfl, rfl, rfl⟩ ?_
    rintro _ _ ⟨o10, c10, y10, rfl, rfl, b10⟩
    have e : l8 ++ zB s.amount ++ zB s.funds = l ++ putB s := by
      rw [hl8]
      simp only [ptsB, putB, List.append_assoc]
    have b11 : Brow y10 o10 c10 (l8 ++ zB s.amount ++ zB s.funds) := b10
    rw [e] at b11
    refine VRet.mk [0, 5] (.sl 1 o10 (l8 ++ zB s.amount ++ zB s.funds).length c10) [.arr xs te, .arr y10 T_uint8] ⟨rfl, rfl, rfl⟩ ⟨o10, c10, y10, by rw [e], rfl, b11⟩
end Go.Proofs

namespace Go.Proofs
open Go Go.V Go.Lib
set_option maxRecDepth 100000
set_option linter.unusedVariables false

/-! ### A house's bytes -/
def keysF (x : HL) : List (Int × Int) := sortD (x.bs.map (·.1))
def stAt (x : HL) (d : Int × Int) : ST := (MP.get x.bs d).getD zeroT'
def bytesH (x : HL) : List Int := zB ((keysF x).length : Nat) ++ (keysF x).flatMap (fun d => putB (stAt x d)) ++ zB (x.red.length : Nat) ++ x.red.flatMap putB
theorem sm_zero : Sm zeroT' := by
  refine ⟨?_, ?_, ?_, fun r _ => (show (0 : Int) ≤ 0 ∧ (0 : Int) ≤ 1099511627776 by decide), ?_, ?_, ?_, ?_, ?_, ?_, ?_, ?_, ?_⟩ <;> first | (exact ⟨by decide, by decide⟩) | decide
theorem flat_len {α : Type} {f : α → List Int} : ∀ {l : List α}, (∀ a, a ∈ l → (f a).length ≤ 2200) → (l.flatMap f).length ≤ 2200 * l.length
  | [], _ => by simp
  | a :: l, h => by
    have h1 := h a (by simp)
    have h2 := flat_len (f := f) (l := l) (fun b hb => h b (by simp [hb]))
    rw [List.flatMap_cons, List.length_append, List.length_cons]
    omega
theorem flat_take {α : Type} {f : α → List Int} {l : List α} {i : Nat} (hi : i < l.length) : (l.take (i + 1)).flatMap f = (l.take i).flatMap f ++ f l[i] := by
  rw [← List.take_append_getElem hi, List.flatMap_append]; simp
structure BXX where
  pre : MB
  seen : List Nat
  n : Nat
  xs : List Value
  o : Nat
  c : Nat
theorem s_Bytes (x : HL) (N : Nat) (hx : HI x N) (hN : N ≤ 1000) (hsb : ∀ d, Sm (stAt x d)) (hsr : ∀ s, s ∈ x.red → Sm s) (rx : List Value) (ro rc : Nat) (hr : RowG stcl 19 rx ro rc x.red) :
    Ctr Tryz.prog F_auct_House_Bytes [.ptr 0 0] (hoH x rx ro rc)
      (fun r H => ∃ o c ys, r = .sl 6 o (bytesH x).length c ∧ H = hoH x rx ro rc ++ [.arr ys T_uint8] ∧ Brow ys o c (bytesH x)) := by
  have hxl := hx.bl
  have hrl := hx.rl
  refine i_auct_House_Bytes.spec follows ?_
  refine VLoop.nil T_api_Dot [3] [] ⟨rfl, rfl⟩ ?_
  refine VLoop.mk BXX (fun y => [(0, .ptr 0 0), (3, .sl 7 y.o y.n y.c), (14, .ptr 6 0)]) (fun y => hoH x rx ro rc ++ [.iter (some 1) x.bc y.seen x.bc, .arr y.xs T_api_Dot]) (fun y => Been x.bs y.pre y.seen ∧ y.n = y.pre.length ∧ RowG dcl 2 y.xs y.o y.c (y.pre.map (·.1))) (fun y => x.bs.length - y.pre.length) ⟨[], [], 0, [], 0, 0⟩ [0, 1, 2, 3, 4, 5, 6, 7]
    ⟨⟨Been.nil _, rfl, ⟨Nat.le_refl _, by simp, by simp⟩⟩, rfl, rfl, rfl⟩ ?_
  rintro ⟨pre, seen, n, xs, o, c⟩ ⟨h1, hn, hrw⟩ g
  simp only at h1 hn hrw
  refine And.intro ⟨fun e he => ?_, Nat.le_refl _⟩ (And.intro (fun hall => ?_) (fun e he hns => ?_))
  · obtain ⟨y, hy, rfl⟩ := List.mem_map.1 he
    exact hx.b.1 y hy
  · have hsub : ∀ y, y ∈ x.bs → y ∈ pre := fun y hy => h1.all hx.b.2 hy (hall _ (List.mem_map.2 ⟨y, hy, rfl⟩))
    have hpn : pre.Nodup := by have := h1.nd; rw [h1.eq] at this; exact nodup_of_map _ this
    have hp : pre.Perm x.bs := (List.perm_ext_iff_of_nodup hpn (nodup_of_map _ hx.bk)).2 fun a => ⟨h1.sub a, hsub a⟩
    have hpl := hp.length_eq
    subst hn
    have hS := s_SortFunc (pre.map (·.1)) xs o c hrw (by rw [List.length_map]; omega)
    rw [List.length_map] at hS
    refine VCall.mk [7] hS ⟨rfl, rfl, rfl⟩ ?_
    rintro _ _ ⟨d', xs', rfl, rfl, hp', hs, hr'⟩
    have hd : d' = keysF x := cmp_srt hx.bk (hp'.trans (hp.map _)) hs
    subst hd
    have hkl : (keysF x).length = pre.length := by rw [hp'.length_eq, List.length_map]
    rw [← hkl]
    have hN0 := s_pack_Num [] [] T_uint8 0 0 brow_nil (Nat.zero_le _) ((keysF x).length : Nat) (by omega)
    refine VCall.nil T_uint8 [0] [] ⟨rfl, rfl⟩ ?_
    refine VCall.mk [8] hN0 ⟨rfl, rfl, rfl⟩ ?_
    rintro _ _ ⟨o1, c1, y1, rfl, rfl, b1⟩
    have hfl : ∀ i, i ≤ (keysF x).length → (((keysF x).take i).flatMap fun d => putB (stAt x d)).length ≤ 2200000 := fun i hi => by
      have h3 := flat_len (f := fun d => putB (stAt x d)) (l := (keysF x).take i) (fun d _ => putB_len (hsb d))
      rw [List.length_take] at h3
      have h4 : min i (keysF x).length ≤ 1000 := by omega
      omega
    have hz0 := zB_len (v := ((keysF x).length : Nat)) (by omega)
    have b1' : Brow y1 o1 c1 (zB ((keysF x).length : Nat)) := b1
    refine VLoop.mk BX (fun y => [(0, .ptr 0 0), (5, .sl 7 y.o y.l.length y.c), (28, .sl 6 o (keysF x).length c), (29, iv (keysF x).length), (30, iv (y.u : Nat))])
      (fun y => hoH x rx ro rc ++ [.arr xs' T_api_Dot, .arr y.xs T_uint8]) (fun y => Brow y.xs y.o y.c y.l ∧ y.u ≤ (keysF x).length ∧ y.l = zB ((keysF x).length : Nat) ++ ((keysF x).take y.u).flatMap fun d => putB (stAt x d)) (fun y => (keysF x).length - y.u) ⟨y1, o1, c1, zB ((keysF x).length : Nat), 0⟩ [0, 1, 2, 3, 4, 5, 7, 9]
      ⟨⟨b1', Nat.zero_le _, by simp⟩, rfl, rfl, rfl⟩ ?_
    rintro ⟨y2, o2, c2, l2, i⟩ ⟨b2, hi, hl2⟩ g2
    simp only at b2 hi hl2
    have hl2n : l2.length ≤ 2200010 := by rw [hl2, List.length_append]; have := hfl i hi; omega
    refine And.intro (fun t1 => ?_) (fun t1 => ?_)
    · have t1 : (i : Int) < ((keysF x).length : Nat) := of_decide_eq_true t1
      have hil : i < (keysF x).length := by omega
      have hwi : IntKind.i64.wrap ((i : Int) + 1) = ((i + 1 : Nat) : Int) := wrap64 (by omega)
      have ci := hr'.cut (fun _ => rfl) hil
      have hroom : o + (keysF x).length * 2 ≤ xs'.length := by have := hr'.2.1; have := Nat.mul_le_mul_right 2 hr'.1; omega
      refine And.intro ⟨Int.natCast_nonneg i, t1, hroom⟩ (Exists.intro _ (And.intro (by rw [Int.toNat_natCast]; exact ci) ?_))
      refine Exists.intro (.agg (stcells (stAt x ((keysF x)[i].1, (keysF x)[i].2)))) (Exists.intro _ (Exists.intro _ (And.intro (lookB x.bs ((keysF x)[i].1, (keysF x)[i].2)) (And.intro rfl ?_))))
      refine VCall.mk [7] (s_auct_put l2 y2 T_uint8 o2 c2 b2 (by omega) (stAt x (keysF x)[i]) (hsb _)) ⟨rfl, rfl, rfl⟩ ?_
      rintro _ _ ⟨o3, c3, y3, rfl, rfl, b3⟩
      refine Exists.intro _ (And.intro hwi ?_)
      refine Exists.intro ⟨y3, o3, c3, l2 ++ putB (stAt x (keysF x)[i]), i + 1⟩ (Exists.intro [0, 1, 2, 3, 4, 5, 6, 9] (And.intro ⟨⟨b3, hil, ?_⟩, by simp only; omega⟩ ⟨rfl, rfl, rfl⟩))
      simp only
      rw [flat_take hil, hl2, List.append_assoc]
    · have hil : i = (keysF x).length := by have t1 := of_decide_eq_false t1; simp only at t1; omega
      subst hil
      rw [List.take_length] at hl2
      have hz1 := zB_len (v := (x.red.length : Nat)) (by omega)
      have hfr : ∀ i, i ≤ x.red.length → ((x.red.take i).flatMap putB).length ≤ 2200000 := fun i hi => by
        have h3 := flat_len (f := putB) (l := x.red.take i) (fun s hs => putB_len (hsr s (List.mem_of_mem_take hs)))
        rw [List.length_take] at h3
        have h4 : min i x.red.length ≤ 1000 := by omega
        omega
      refine VCall.mk [7] (s_pack_Num l2 y2 T_uint8 o2 c2 b2 (by omega) (x.red.length : Nat) (by omega)) ⟨rfl, rfl, rfl⟩ ?_
      rintro _ _ ⟨o4, c4, y4, rfl, rfl, b4⟩
      have b4' : Brow y4 o4 c4 (l2 ++ zB (x.red.length : Nat)) := b4
      refine VLoop.mk BX (fun y => [(5, .sl 6 y.o y.l.length y.c), (53, .sl 5 ro x.red.length rc), (54, iv x.red.length), (55, iv (y.u : Nat))])
        (fun y => hoH x rx ro rc ++ [.arr y.xs T_uint8]) (fun y => Brow y.xs y.o y.c y.l ∧ y.u ≤ x.red.length ∧ y.l = l2 ++ zB (x.red.length : Nat) ++ (x.red.take y.u).flatMap putB) (fun y => x.red.length - y.u) ⟨y4, o4, c4, l2 ++ zB (x.red.length : Nat), 0⟩ [0, 1, 2, 3, 4, 5, 8]
        ⟨⟨b4', Nat.zero_le _, by simp⟩, rfl, rfl, rfl⟩ ?_
      rintro ⟨y5, o5, c5, l5, j⟩ ⟨b5, hj, hl5⟩ g3
      simp only at b5 hj hl5
      have hl5n : l5.length ≤ 4500000 := by rw [hl5, List.length_append, List.length_append]; have := hfr j hj; omega
      refine And.intro (fun t2 => ?_) (fun t2 => ?_)
      · have t2 : (j : Int) < (x.red.length : Nat) := of_decide_eq_true t2
        have hjl : j < x.red.length := by omega
        have hwj : IntKind.i64.wrap ((j : Int) + 1) = ((j + 1 : Nat) : Int) := wrap64 (by omega)
        have cj := hr.cut (fun _ => rfl) hjl
        have hroom : ro + x.red.length * 19 ≤ rx.length := by have := hr.2.1; have := Nat.mul_le_mul_right 19 hr.1; omega
        refine And.intro ⟨Int.natCast_nonneg j, t2, hroom⟩ (Exists.intro _ (And.intro (by rw [Int.toNat_natCast]; exact cj) ?_))
        refine VCall.mk [6] (s_auct_put l5 y5 T_uint8 o5 c5 b5 (by omega) x.red[j] (hsr _ (List.getElem_mem hjl))) ⟨rfl, rfl, rfl⟩ ?_
        rintro _ _ ⟨o6, c6, y6, rfl, rfl, b6⟩
        refine Exists.intro _ (And.intro hwj ?_)
        refine Exists.intro ⟨y6, o6, c6, l5 ++ putB x.red[j], j + 1⟩ (Exists.intro [0, 1, 2, 3, 4, 5, 8] (And.intro ⟨⟨b6, hjl, ?_⟩, by simp only; omega⟩ ⟨rfl, rfl, rfl⟩))
        simp only
        rw [flat_take hjl, hl5, List.append_assoc]
      · have hjl : j = x.red.length := by have t2 := of_decide_eq_false t2; simp only at t2; omega
        subst hjl
        rw [List.take_length] at hl5
        have e : l5 = bytesH x := by rw [hl5, hl2]; rfl
        subst e
        exact VRet.mk [0, 1, 2, 3, 4, 5, 6] (.sl 6 o5 (bytesH x).length c5) (hoH x rx ro rc ++ [.arr y5 T_uint8]) ⟨rfl, rfl, rfl⟩ ⟨o5, c5, y5, rfl, rfl, b5⟩
  · obtain ⟨y, hy, rfl⟩ := List.mem_map.1 he
    have hns : y.2.2 ∉ seen := hns
    have hlen : x.bs.length - (pre ++ [y]).length < x.bs.length - pre.length := by classical exact h1.len hy hns
    have hmore := h1.more hy hns
    refine Exists.intro y.2.2 (Exists.intro (ent encD encST y) (And.intro (last_snoc _ _) (And.intro (find_ents hx.b.2 hy) (And.intro rfl ?_))))
    have hnb : (n + 1) * 16 ≤ 1099511627776 := by omega
    refine And.intro ⟨⟨by rw [hn]; have := hrw.1; rw [List.length_map] at this; exact this, hrw.2.1, rfl⟩, ⟨rfl, rfl⟩, hnb⟩ ?_
    intro xs' o' c' hz
    refine Exists.intro ⟨pre ++ [y], seen ++ [y.2.2], n + 1, xs', o', c'⟩ (Exists.intro [0, 1, 2, 3, 4, 5, 6, 10] (And.intro ⟨⟨hmore, by simp only; rw [hn, List.length_append]; rfl, ?_⟩, hlen⟩ ⟨rfl, rfl, rfl⟩))
    simp only [List.map_append, List.map_cons, List.map_nil]
    exact RowG.snoc hrw (by rw [List.length_map]; exact hn) hz.1 hz.2.1 hz.2.2
end Go.Proofs

namespace Go.Proofs
open Go Go.V Go.Lib
set_option maxRecDepth 100000
set_option linter.unusedVariables false

def strOf (l : List Int) : ByteArray := ⟨(l.map fun n => UInt8.ofNat n.toNat).toArray⟩
theorem strOf_size (l : List Int) : (strOf l).size = l.length := by simp [strOf, ByteArray.size]
theorem strOf_cells {l : List Int} (h : ∀ b ∈ l, 0 ≤ b ∧ b < 256) : (strOf l).data.toList.map (fun b => Value.int .u8 b.toNat) = l.map (Value.int .u8) := by
  simp only [strOf, List.map_map]
  apply List.map_congr_left
  intro b hb
  have := h b hb
  show Value.int .u8 ((UInt8.ofNat b.toNat).toNat : Int) = _
  congr 1
  rw [UInt8.toNat_ofNat']
  omega
def Byt (l : List Int) : Prop := ∀ b, b ∈ l → 0 ≤ b ∧ b < 256
theorem Byt.app {l m : List Int} (h : Byt l) (h2 : Byt m) : Byt (l ++ m) := fun b hb => by
  rcases List.mem_append.1 hb with k | k
  · exact h b k
  · exact h2 b k
theorem Byt.flat {α : Type} {f : α → List Int} {l : List α} (h : ∀ a, a ∈ l → Byt (f a)) : Byt (l.flatMap f) := fun b hb => by
  obtain ⟨a, h1, h2⟩ := List.mem_flatMap.1 hb
  exact h a h1 b h2
theorem numB_byt (u : Nat) : Byt (Go.V.numB u) := by
  induction u using Nat.strongRecOn with
  | _ u ih =>
    intro b hb
    by_cases h : u < 128
    · rw [numB_lt h] at hb
      have hb := List.mem_singleton.1 hb
      omega
    · rw [numB_ge h] at hb
      rcases List.mem_cons.1 hb with k | k
      · omega
      · exact ih (u / 128) (by omega) b k
theorem textB_byt (s : ByteArray) : Byt (textB s) := Byt.app (numB_byt _) fun b hb => by
  obtain ⟨x, _, rfl⟩ := List.mem_map.1 hb
  have := x.toNat_lt
  omega
theorem vecB_byt (v : Nat → Int) : ∀ n, Byt (vecB v n)
  | 0 => fun b hb => by simp [vecB] at hb
  | n + 1 => (vecB_byt v n).app (numB_byt _)
theorem putB_byt (s : ST) : Byt (putB s) :=
  (numB_byt _).app ((numB_byt _).app ((numB_byt _).app ((vecB_byt _ _).app ((numB_byt _).app ((textB_byt _).app ((textB_byt _).app ((numB_byt _).app ((numB_byt _).app ((numB_byt _).app ((numB_byt _).app ((numB_byt _).app (numB_byt _))))))))))))
theorem bytesH_byt (x : HL) : Byt (bytesH x) :=
  (((numB_byt _).app (Byt.flat fun d _ => putB_byt _)).app (numB_byt _)).app (Byt.flat fun s _ => putB_byt s)
abbrev hoQ (x : HL) (rx : List Value) (ro rc : Nat) : List SO := [.cells (vcells x.v ++ [.mp 7, .sl 11 ro x.red.length rc, .mp 8, .mp 9, .mp 10]) T_auct_House,
  .map (ents encD encST x.bs) x.bc, .map (ents encT encB x.us) x.uc, .map (ents encT encN x.ds) x.dc, .map (ents encD encO x.cs) x.cc, .arr rx T_auct_Step]
end Go.Proofs

namespace Go.Proofs
open Go Go.V
set_option maxRecDepth 100000
set_option linter.unusedVariables false

/-! ### The reader -/
abbrev rdc (k o n c : Nat) (bad : Bool) : List SV := [.sl k o n c, bv bad]
theorem s_fail (o n c : Nat) (bad : Bool) (xs : List Value) (te : TypeId) : Ctr Tryz.prog F_pack_Reader_fail [.ptr 0 0] [.cells (rdc 1 o n c bad) T_pack_Reader, .arr xs te]
    (fun x H => x = iv 0 ∧ H = [.cells (rdc 2 0 0 0 true) T_pack_Reader, .arr xs te, .arr [] T_uint8]) := by
  refine i_pack_Reader_fail.spec follows ?_
  exact VRet.nil T_uint8 [] [(0, 0)] ⟨rfl, rfl⟩ (VRet.mk [0, 1, 2] (iv 0) [.cells (rdc 2 0 0 0 true) T_pack_Reader, .arr xs te, .arr [] T_uint8] ⟨rfl, rfl, rfl⟩ ⟨rfl, rfl⟩)
theorem s_Bad (o n c : Nat) (bad : Bool) (xs : List Value) (te : TypeId) : Ctr Tryz.prog F_pack_Reader_Bad [.ptr 0 0] [.cells (rdc 1 o n c bad) T_pack_Reader, .arr xs te]
    (fun x H => x = bv bad ∧ H = [.cells (rdc 1 o n c bad) T_pack_Reader, .arr xs te]) := by
  refine i_pack_Reader_Bad.spec follows ?_
  exact VRet.mk [0, 1] (bv bad) [.cells (rdc 1 o n c bad) T_pack_Reader, .arr xs te] ⟨rfl, rfl, rfl⟩ ⟨rfl, rfl⟩
theorem s_End (o n c : Nat) (bad : Bool) (xs : List Value) (te : TypeId) : Ctr Tryz.prog F_pack_Reader_End [.ptr 0 0] [.cells (rdc 1 o n c bad) T_pack_Reader, .arr xs te]
    (fun x H => x = bv (!bad && decide (n = 0)) ∧ H = [.cells (rdc 1 o n c bad) T_pack_Reader, .arr xs te]) := by
  refine i_pack_Reader_End.spec follows ?_
  refine And.intro (fun h => ?_) (fun h => ?_)
  · have h : (!bad) = true := h
    refine VRet.mk [0, 1] (bv _) [.cells (rdc 1 o n c bad) T_pack_Reader, .arr xs te] ⟨rfl, rfl, rfl⟩ ⟨?_, rfl⟩
    show bv _ = bv _
    rw [h]; simp
  · have h : (!bad) = false := h
    refine VRet.mk [0, 1] (bv false) [.cells (rdc 1 o n c bad) T_pack_Reader, .arr xs te] ⟨rfl, rfl, rfl⟩ ⟨?_, rfl⟩
    show bv _ = bv _
    rw [h]; simp

theorem brow_get {xs : List Value} {o c : Nat} {l : List Int} (h : Brow xs o c l) {i : Nat} (hi : i < l.length) : xs[o + (i : Int).toNat * 1]? = some (.int .u8 l[i]) := by
  have h1 : ((xs.drop o).take l.length)[i]? = (l.map (Value.int .u8))[i]? := by rw [h.2.2]
  rw [List.getElem?_take_of_lt hi, List.getElem?_drop, List.getElem?_map, List.getElem?_eq_getElem hi] at h1
  rw [Int.toNat_natCast, Nat.mul_one]; exact h1
theorem brow_drop {xs : List Value} {o c : Nat} {l : List Int} (h : Brow xs o c l) {k : Nat} (hk : k ≤ l.length) {o' : Nat} (ho : o' = if c = k then o else o + k * 1) : Brow xs o' (c - k) (l.drop k) := by
  obtain ⟨h1, h2, h3⟩ := h
  refine ⟨by rw [List.length_drop]; omega, ?_, ?_⟩
  · subst ho; split <;> omega
  · rw [List.length_drop, List.map_drop, ← h3]
    subst ho
    split
    · have : l.length - k = 0 := by omega
      rw [this, List.take_zero, List.drop_eq_nil_of_le (by rw [List.length_take]; omega)]
    · rw [List.drop_take, List.drop_drop, Nat.mul_one]
theorem rd_end (i u : Nat) : rd [] i u = none := by simp [rd]
theorem rd_ten (l : List Int) (u : Nat) : rd l 10 u = none := by cases l <;> simp [rd]

structure NXr where
  i : Nat
  u : Int
def NInv (l : List Int) (m : Nat) (x : NXr) : Prop := x.i ≤ m ∧ ((x.i ≤ 9 ∧ ∃ n : Nat, x.u = n ∧ n < 2 ^ (7 * x.i) ∧ rd l 0 0 = rd (l.drop x.i) x.i n) ∨ (x.i = 10 ∧ rd l 0 0 = none))

set_option maxHeartbeats 4000000 in
theorem s_Num (l : List Int) (least most : Int) (o c : Nat) (bad : Bool) (xs : List Value) (te : TypeId) (hb : Brow xs o c l) (hby : ∀ b ∈ l, 0 ≤ b ∧ b < 256) :
    Ctr Tryz.prog F_pack_Reader_Num [.ptr 0 0, iv least, iv most] [.cells (rdc 1 o l.length c bad) T_pack_Reader, .arr xs te]
    (fun x H => (∃ v l', rdN l least most = some (v, l') ∧ x = iv v ∧ ∃ o' c', H = [.cells (rdc 1 o' l'.length c' bad) T_pack_Reader, .arr xs te] ∧ Brow xs o' c' l' ∧ l' <:+ l) ∨
      (rdN l least most = none ∧ x = iv 0 ∧ H = [.cells (rdc 2 0 0 0 true) T_pack_Reader, .arr xs te, .arr [] T_uint8])) := by
  refine i_pack_Reader_Num.spec follows ?_
  have hm : (if (10 : Int) < (l.length : Int) then (10 : Int) else (l.length : Int)).toNat = min l.length 10 := by split <;> omega
  refine And.intro ⟨by split <;> omega, by have := hb.1; split <;> omega⟩ ?_
  generalize (if (10 : Int) < (l.length : Int) then (10 : Int) else (l.length : Int)) = mm at hm ⊢
  refine VLoop.mk NXr (fun x => [(0, .ptr 0 0), (1, iv least), (2, iv most), (7, .raw (.int .u64 x.u)), (21, .sl 1 o mm.toNat c), (22, iv mm.toNat), (23, iv x.i)])
    (fun x => [.cells (rdc 1 o l.length c bad) T_pack_Reader, .arr xs te]) (NInv l mm.toNat) (fun x => mm.toNat - x.i) ⟨0, 0⟩ [0, 1] ⟨⟨Nat.zero_le _, .inl ⟨by simp, 0, rfl, by simp, rfl⟩⟩, rfl, rfl, rfl⟩ ?_
  rintro ⟨i, u⟩ ⟨hi, hinv⟩ g
  simp only at hi hinv
  refine And.intro (fun h => ?_) (fun h => ?_)
  · have h := of_decide_eq_true h
    have him : i < mm.toNat := by simp only at h; omega
    have hil : i < l.length := by omega
    have hi9 : i ≤ 9 := by omega
    obtain ⟨n, hun, hnn, hr0⟩ : ∃ n : Nat, u = n ∧ n < 2 ^ (7 * i) ∧ rd l 0 0 = rd (l.drop i) i n := by
      rcases hinv with ⟨_, h⟩ | ⟨h, _⟩
      · exact h
      · omega
    have hby1 := hby l[i] (List.getElem_mem hil)
    obtain ⟨k, hk⟩ : ∃ k : Nat, l[i] = k := ⟨l[i].toNat, by omega⟩
    have hk256 : k < 256 := by omega
    rw [List.drop_eq_getElem_cons hil] at hr0
    have e1 : intBits .andNot .u8 l[i] 128 = ((k % 128 : Nat) : Int) := by rw [hk]; exact andNot8 hk256
    have e2 : intBits .and .u8 l[i] 128 = ((if 128 ≤ k then 128 else 0 : Nat) : Int) := by rw [hk]; exact and128 hk256
    have hcap : o + mm.toNat * 1 ≤ xs.length := by have := hb.1; have := hb.2.1; omega
    refine And.intro ⟨Int.natCast_nonneg i, h, hcap⟩ ?_
    refine Exists.intro _ (And.intro (brow_get hb hil) ?_)
    refine Exists.intro _ (And.intro e1 ?_)
    refine Exists.intro _ (And.intro (w64u (n := ((k % 128 : Nat) : Int)) (by omega)) ?_)
    have e3 : IntKind.i64.wrap (7 * (i : Int)) = ((7 * i : Nat) : Int) := by rw [wrap64 (by omega)]; omega
    refine Exists.intro _ (And.intro e3 ?_)
    refine And.intro (Int.natCast_nonneg _) (Exists.intro _ (And.intro (shl7 (k % 128) hi9) ?_))
    clear e1 e3
    have hnext : ∀ W : Int, (i ≤ 8 → ∃ n' : Nat, W = n' ∧ n' = n + k % 128 * 2 ^ (7 * i)) → 128 ≤ k → NInv l mm.toNat ⟨i + 1, W⟩ := by
      intro W hW hk
      refine ⟨by simp only; omega, ?_⟩
      simp only
      have hr1 : rd l 0 0 = rd (l.drop (i + 1)) (i + 1) (n + k % 128 * 2 ^ (7 * i)) := by
        rw [hr0, rd, if_neg (by omega), if_pos (by omega)]
        have : l[i].toNat = k := by omega
        rw [this]
      by_cases h8 : i ≤ 8
      · left
        obtain ⟨n', rfl, rfl⟩ := hW h8
        refine ⟨by omega, _, rfl, ?_, hr1⟩
        have h128 : k % 128 + 1 ≤ 128 := by omega
        have := Nat.mul_le_mul_right (2 ^ (7 * i)) h128
        rw [show 7 * (i + 1) = 7 * i + 7 by omega, Nat.pow_add]
        rw [Nat.add_mul, Nat.one_mul] at this
        omega
      · right
        have : i = 9 := by omega
        subst this
        exact ⟨rfl, by rw [hr1, rd_ten]⟩
    have hmu : mm.toNat - (i + 1) < mm.toNat - i := by omega
    have hlast : ¬ 128 ≤ k → rd l 0 0 = if (0 < i ∧ l[i] = 0) ∨ (i = 9 ∧ 1 < l[i]) then none else some (n + k * 2 ^ (7 * i), l.drop (i + 1)) := by
      intro hk2
      rw [hr0, rd, if_neg (by omega), if_neg (by omega)]
      have : l[i].toNat = k := by omega
      rw [this]
    have hfail : (¬ 128 ≤ k ∧ ((0 < i ∧ l[i] = 0) ∨ (i = 9 ∧ 1 < l[i]))) → rdN l least most = none := by
      rintro ⟨h1, h2⟩
      simp only [rdN, hlast h1, if_pos h2]
    by_cases hfit : k % 128 * 2 ^ (7 * i) < 18446744073709551616
    · have hub0 : n + k % 128 * 2 ^ (7 * i) < 18446744073709551616 := orBound hi9 hnn hfit
      have hor : intBits .or .u64 u (((k % 128 * 2 ^ (7 * i)) % 18446744073709551616 : Nat) : Int) = ((n + k % 128 * 2 ^ (7 * i) : Nat) : Int) := by rw [hun, Nat.mod_eq_of_lt hfit]; exact orAdd hi9 hnn hfit
      refine Exists.intro _ (And.intro hor ?_)
      clear hor
      refine Exists.intro _ (And.intro e2 ?_)
      clear e2
      refine And.intro (fun h2 => ?_) (fun h2 => ?_)
      · have hw : IntKind.i64.wrap ((i : Int) + 1) = ((i + 1 : Nat) : Int) := wrap64 (by omega)
        refine Exists.intro _ (And.intro hw ?_)
        exact Exists.intro ⟨i + 1, _⟩ (Exists.intro [0, 1] (And.intro ⟨hnext _ (fun _ => ⟨_, rfl, rfl⟩) (by by_cases h5 : 128 ≤ k; exact h5; simp [h5] at h2), hmu⟩ ⟨rfl, rfl, rfl⟩))
      · have hk128 : ¬ 128 ≤ k := by
          intro h5; simp [h5] at h2
        have hkm : k % 128 = k := by omega
        have hub : n + k % 128 * 2 ^ (7 * i) < 18446744073709551616 := hub0
        rw [hkm] at hub
        have hz : intBits .xor .i64 (((n + k % 128 * 2 ^ (7 * i)) / 2 : Nat) : Int) (IntKind.i64.wrap (0 - (((n + k % 128 * 2 ^ (7 * i)) % 2 : Nat) : Int))) = zig (n + k * 2 ^ (7 * i)) := by
          rw [hkm]; exact xorZig hub
        refine And.intro (by omega) (Exists.intro _ (And.intro (shr1 (n + k % 128 * 2 ^ (7 * i))) ?_))
        refine Exists.intro _ (And.intro (wrap64 (n := (((n + k % 128 * 2 ^ (7 * i)) / 2 : Nat) : Int)) (by omega)) ?_)
        refine Exists.intro _ (And.intro (Go.V.and1 hub0) ?_)
        refine Exists.intro _ (And.intro (wrap64 (n := (((n + k % 128 * 2 ^ (7 * i)) % 2 : Nat) : Int)) (by omega)) ?_)
        refine Exists.intro _ (And.intro rfl ?_)
        refine Exists.intro _ (And.intro hz ?_)
        clear hz
        refine And.intro (fun b1 => ?_) (fun b1 => ?_)
        · have b1 : 0 < (i : Int) := of_decide_eq_true b1
          refine And.intro (fun z1 => ?_) (fun z1 => ?_)
          · have z1 := of_decide_eq_false z1
            refine And.intro (fun a9 => ?_) (fun a9 => ?_)
            · have a9 : (i : Int) = 9 := of_decide_eq_true a9
              refine And.intro (fun a1 => ?_) (fun a1 => ?_)
              · have a1 := of_decide_eq_false a1
                have hnb : ¬ ((0 < i ∧ l[i] = 0) ∨ (i = 9 ∧ 1 < l[i])) := by
                  rintro (h5 | h5)
                  · exact (fun h5 => z1 h5.2) h5
                  · exact a1 h5.2
                refine And.intro (fun g1 => ?_) (fun g1 => ?_)
                · refine And.intro (fun g2 => ?_) (fun g2 => ?_)
                  · refine VCall.mk [0, 1] (s_fail o l.length c bad xs te) ⟨rfl, rfl, rfl⟩ ?_
                    rintro _ _ ⟨rfl, rfl⟩
                    exact VRet.mk [0, 1, 2] (iv 0) [.cells (rdc 2 0 0 0 true) T_pack_Reader, .arr xs te, .arr [] T_uint8] ⟨rfl, rfl, rfl⟩ (.inr ⟨by
                        have h3 := hlast hk128
                        rw [if_neg hnb] at h3
                        simp only [rdN, h3]
                        rw [if_pos (.inr (of_decide_eq_true g2))], rfl, rfl⟩)
                  · have hw : IntKind.i64.wrap ((i : Int) + 1) = ((i + 1 : Nat) : Int) := wrap64 (by omega)
                    refine Exists.intro _ (And.intro hw ?_)
                    refine And.intro ⟨Int.natCast_nonneg _, by omega⟩ ?_
                    refine Exists.intro _ (And.intro rfl ?_)
                    refine VRet.mk [0, 1] (iv _) [.cells (rdc 1 (if c = ((i + 1 : Nat) : Int).toNat then o else o + ((i + 1 : Nat) : Int).toNat * 1) (l.length - (i + 1)) (c - (i + 1)) bad) T_pack_Reader, .arr xs te] ⟨rfl, rfl, rfl⟩ (.inl ⟨zig (n + k * 2 ^ (7 * i)), l.drop (i + 1), ?_, rfl, _, _, ?_, brow_drop hb (by omega) rfl, List.drop_suffix _ _⟩)
                    · have h3 := hlast hk128
                      rw [if_neg hnb] at h3
                      simp only [rdN, h3]
                      rw [if_neg]
                      simp only [not_or]
                      exact ⟨of_decide_eq_false g1, of_decide_eq_false g2⟩
                    · rw [List.length_drop]; rfl
                · refine VCall.mk [0, 1] (s_fail o l.length c bad xs te) ⟨rfl, rfl, rfl⟩ ?_
                  rintro _ _ ⟨rfl, rfl⟩
                  exact VRet.mk [0, 1, 2] (iv 0) [.cells (rdc 2 0 0 0 true) T_pack_Reader, .arr xs te, .arr [] T_uint8] ⟨rfl, rfl, rfl⟩ (.inr ⟨by
                      have h3 := hlast hk128
                      rw [if_neg hnb] at h3
                      simp only [rdN, h3]
                      rw [if_pos (.inl (of_decide_eq_true g1))], rfl, rfl⟩)
              · have a1 : decide (1 < l[i]) = true := a1
                have a1 := of_decide_eq_true a1
                refine VCall.mk [0, 1] (s_fail o l.length c bad xs te) ⟨rfl, rfl, rfl⟩ ?_
                rintro _ _ ⟨rfl, rfl⟩
                exact VRet.mk [0, 1, 2] (iv 0) [.cells (rdc 2 0 0 0 true) T_pack_Reader, .arr xs te, .arr [] T_uint8] ⟨rfl, rfl, rfl⟩ (.inr ⟨hfail ⟨hk128, .inr ⟨by omega, a1⟩⟩, rfl, rfl⟩)
            · have a9 : ¬ (i : Int) = 9 := of_decide_eq_false a9
              have hnb : ¬ ((0 < i ∧ l[i] = 0) ∨ (i = 9 ∧ 1 < l[i])) := by
                rintro (h5 | h5)
                · exact (fun h5 => z1 h5.2) h5
                · exact a9 (by omega)
              refine And.intro (fun g1 => ?_) (fun g1 => ?_)
              · refine And.intro (fun g2 => ?_) (fun g2 => ?_)
                · refine VCall.mk [0, 1] (s_fail o l.length c bad xs te) ⟨rfl, rfl, rfl⟩ ?_
                  rintro _ _ ⟨rfl, rfl⟩
                  exact VRet.mk [0, 1, 2] (iv 0) [.cells (rdc 2 0 0 0 true) T_pack_Reader, .arr xs te, .arr [] T_uint8] ⟨rfl, rfl, rfl⟩ (.inr ⟨by
                      have h3 := hlast hk128
                      rw [if_neg hnb] at h3
                      simp only [rdN, h3]
                      rw [if_pos (.inr (of_decide_eq_true g2))], rfl, rfl⟩)
                · have hw : IntKind.i64.wrap ((i : Int) + 1) = ((i + 1 : Nat) : Int) := wrap64 (by omega)
                  refine Exists.intro _ (And.intro hw ?_)
                  refine And.intro ⟨Int.natCast_nonneg _, by omega⟩ ?_
                  refine Exists.intro _ (And.intro rfl ?_)
                  refine VRet.mk [0, 1] (iv _) [.cells (rdc 1 (if c = ((i + 1 : Nat) : Int).toNat then o else o + ((i + 1 : Nat) : Int).toNat * 1) (l.length - (i + 1)) (c - (i + 1)) bad) T_pack_Reader, .arr xs te] ⟨rfl, rfl, rfl⟩ (.inl ⟨zig (n + k * 2 ^ (7 * i)), l.drop (i + 1), ?_, rfl, _, _, ?_, brow_drop hb (by omega) rfl, List.drop_suffix _ _⟩)
                  · have h3 := hlast hk128
                    rw [if_neg hnb] at h3
                    simp only [rdN, h3]
                    rw [if_neg]
                    simp only [not_or]
                    exact ⟨of_decide_eq_false g1, of_decide_eq_false g2⟩
                  · rw [List.length_drop]; rfl
              · refine VCall.mk [0, 1] (s_fail o l.length c bad xs te) ⟨rfl, rfl, rfl⟩ ?_
                rintro _ _ ⟨rfl, rfl⟩
                exact VRet.mk [0, 1, 2] (iv 0) [.cells (rdc 2 0 0 0 true) T_pack_Reader, .arr xs te, .arr [] T_uint8] ⟨rfl, rfl, rfl⟩ (.inr ⟨by
                    have h3 := hlast hk128
                    rw [if_neg hnb] at h3
                    simp only [rdN, h3]
                    rw [if_pos (.inl (of_decide_eq_true g1))], rfl, rfl⟩)
          · have z1 : decide (l[i] = 0) = true := z1
            have z1 := of_decide_eq_true z1
            refine VCall.mk [0, 1] (s_fail o l.length c bad xs te) ⟨rfl, rfl, rfl⟩ ?_
            rintro _ _ ⟨rfl, rfl⟩
            exact VRet.mk [0, 1, 2] (iv 0) [.cells (rdc 2 0 0 0 true) T_pack_Reader, .arr xs te, .arr [] T_uint8] ⟨rfl, rfl, rfl⟩ (.inr ⟨hfail ⟨hk128, .inl ⟨by omega, z1⟩⟩, rfl, rfl⟩)
        · have b1 : ¬ 0 < (i : Int) := of_decide_eq_false b1
          refine And.intro (fun a9 => ?_) (fun a9 => ?_)
          · have a9 : (i : Int) = 9 := of_decide_eq_true a9
            refine And.intro (fun a1 => ?_) (fun a1 => ?_)
            · have a1 := of_decide_eq_false a1
              have hnb : ¬ ((0 < i ∧ l[i] = 0) ∨ (i = 9 ∧ 1 < l[i])) := by
                rintro (h5 | h5)
                · exact (fun h5 => b1 (by omega)) h5
                · exact a1 h5.2
              refine And.intro (fun g1 => ?_) (fun g1 => ?_)
              · refine And.intro (fun g2 => ?_) (fun g2 => ?_)
                · refine VCall.mk [0, 1] (s_fail o l.length c bad xs te) ⟨rfl, rfl, rfl⟩ ?_
                  rintro _ _ ⟨rfl, rfl⟩
                  exact VRet.mk [0, 1, 2] (iv 0) [.cells (rdc 2 0 0 0 true) T_pack_Reader, .arr xs te, .arr [] T_uint8] ⟨rfl, rfl, rfl⟩ (.inr ⟨by
                      have h3 := hlast hk128
                      rw [if_neg hnb] at h3
                      simp only [rdN, h3]
                      rw [if_pos (.inr (of_decide_eq_true g2))], rfl, rfl⟩)
                · have hw : IntKind.i64.wrap ((i : Int) + 1) = ((i + 1 : Nat) : Int) := wrap64 (by omega)
                  refine Exists.intro _ (And.intro hw ?_)
                  refine And.intro ⟨Int.natCast_nonneg _, by omega⟩ ?_
                  refine Exists.intro _ (And.intro rfl ?_)
                  refine VRet.mk [0, 1] (iv _) [.cells (rdc 1 (if c = ((i + 1 : Nat) : Int).toNat then o else o + ((i + 1 : Nat) : Int).toNat * 1) (l.length - (i + 1)) (c - (i + 1)) bad) T_pack_Reader, .arr xs te] ⟨rfl, rfl, rfl⟩ (.inl ⟨zig (n + k * 2 ^ (7 * i)), l.drop (i + 1), ?_, rfl, _, _, ?_, brow_drop hb (by omega) rfl, List.drop_suffix _ _⟩)
                  · have h3 := hlast hk128
                    rw [if_neg hnb] at h3
                    simp only [rdN, h3]
                    rw [if_neg]
                    simp only [not_or]
                    exact ⟨of_decide_eq_false g1, of_decide_eq_false g2⟩
                  · rw [List.length_drop]; rfl
              · refine VCall.mk [0, 1] (s_fail o l.length c bad xs te) ⟨rfl, rfl, rfl⟩ ?_
                rintro _ _ ⟨rfl, rfl⟩
                exact VRet.mk [0, 1, 2] (iv 0) [.cells (rdc 2 0 0 0 true) T_pack_Reader, .arr xs te, .arr [] T_uint8] ⟨rfl, rfl, rfl⟩ (.inr ⟨by
                    have h3 := hlast hk128
                    rw [if_neg hnb] at h3
                    simp only [rdN, h3]
                    rw [if_pos (.inl (of_decide_eq_true g1))], rfl, rfl⟩)
            · have a1 : decide (1 < l[i]) = true := a1
              have a1 := of_decide_eq_true a1
              refine VCall.mk [0, 1] (s_fail o l.length c bad xs te) ⟨rfl, rfl, rfl⟩ ?_
              rintro _ _ ⟨rfl, rfl⟩
              exact VRet.mk [0, 1, 2] (iv 0) [.cells (rdc 2 0 0 0 true) T_pack_Reader, .arr xs te, .arr [] T_uint8] ⟨rfl, rfl, rfl⟩ (.inr ⟨hfail ⟨hk128, .inr ⟨by omega, a1⟩⟩, rfl, rfl⟩)
          · have a9 : ¬ (i : Int) = 9 := of_decide_eq_false a9
            have hnb : ¬ ((0 < i ∧ l[i] = 0) ∨ (i = 9 ∧ 1 < l[i])) := by
              rintro (h5 | h5)
              · exact (fun h5 => b1 (by omega)) h5
              · exact a9 (by omega)
            refine And.intro (fun g1 => ?_) (fun g1 => ?_)
            · refine And.intro (fun g2 => ?_) (fun g2 => ?_)
              · refine VCall.mk [0, 1] (s_fail o l.length c bad xs te) ⟨rfl, rfl, rfl⟩ ?_
                rintro _ _ ⟨rfl, rfl⟩
                exact VRet.mk [0, 1, 2] (iv 0) [.cells (rdc 2 0 0 0 true) T_pack_Reader, .arr xs te, .arr [] T_uint8] ⟨rfl, rfl, rfl⟩ (.inr ⟨by
                    have h3 := hlast hk128
                    rw [if_neg hnb] at h3
                    simp only [rdN, h3]
                    rw [if_pos (.inr (of_decide_eq_true g2))], rfl, rfl⟩)
              · have hw : IntKind.i64.wrap ((i : Int) + 1) = ((i + 1 : Nat) : Int) := wrap64 (by omega)
                refine Exists.intro _ (And.intro hw ?_)
                refine And.intro ⟨Int.natCast_nonneg _, by omega⟩ ?_
                refine Exists.intro _ (And.intro rfl ?_)
                refine VRet.mk [0, 1] (iv _) [.cells (rdc 1 (if c = ((i + 1 : Nat) : Int).toNat then o else o + ((i + 1 : Nat) : Int).toNat * 1) (l.length - (i + 1)) (c - (i + 1)) bad) T_pack_Reader, .arr xs te] ⟨rfl, rfl, rfl⟩ (.inl ⟨zig (n + k * 2 ^ (7 * i)), l.drop (i + 1), ?_, rfl, _, _, ?_, brow_drop hb (by omega) rfl, List.drop_suffix _ _⟩)
                · have h3 := hlast hk128
                  rw [if_neg hnb] at h3
                  simp only [rdN, h3]
                  rw [if_neg]
                  simp only [not_or]
                  exact ⟨of_decide_eq_false g1, of_decide_eq_false g2⟩
                · rw [List.length_drop]; rfl
            · refine VCall.mk [0, 1] (s_fail o l.length c bad xs te) ⟨rfl, rfl, rfl⟩ ?_
              rintro _ _ ⟨rfl, rfl⟩
              exact VRet.mk [0, 1, 2] (iv 0) [.cells (rdc 2 0 0 0 true) T_pack_Reader, .arr xs te, .arr [] T_uint8] ⟨rfl, rfl, rfl⟩ (.inr ⟨by
                  have h3 := hlast hk128
                  rw [if_neg hnb] at h3
                  simp only [rdN, h3]
                  rw [if_pos (.inl (of_decide_eq_true g1))], rfl, rfl⟩)
    · have h9 : i = 9 ∧ 2 ≤ k % 128 := by
        have hp : ∀ j, j ≤ 8 → 128 * 2 ^ (7 * j) ≤ 18446744073709551616 := by
          intro j hj
          match j, hj with | 0, _ | 1, _ | 2, _ | 3, _ | 4, _ | 5, _ | 6, _ | 7, _ | 8, _ => decide
        by_cases h8 : i ≤ 8
        · exfalso
          have h5 := hp i h8
          have h6 := Nat.mul_lt_mul_of_pos_right (show k % 128 < 128 by omega) (Nat.two_pow_pos (7 * i))
          omega
        · have : i = 9 := by omega
          subst this
          refine ⟨rfl, ?_⟩
          have : (2 : Nat) ^ (7 * 9) = 9223372036854775808 := by decide
          rw [this] at hfit
          omega
      refine Exists.intro _ (And.intro rfl ?_)
      refine Exists.intro _ (And.intro e2 ?_)
      clear e2
      refine And.intro (fun h2 => ?_) (fun h2 => ?_)
      · have hw : IntKind.i64.wrap ((i : Int) + 1) = ((i + 1 : Nat) : Int) := wrap64 (by omega)
        refine Exists.intro _ (And.intro hw ?_)
        exact Exists.intro ⟨i + 1, _⟩ (Exists.intro [0, 1] (And.intro ⟨hnext _ (fun h8 => by omega) (by by_cases h5 : 128 ≤ k; exact h5; simp [h5] at h2), hmu⟩ ⟨rfl, rfl, rfl⟩))
      · have hk128 : ¬ 128 ≤ k := by
          intro h5; simp [h5] at h2
        refine And.intro (by omega) (Exists.intro _ (And.intro rfl ?_))
        refine Exists.intro _ (And.intro rfl ?_)
        refine Exists.intro _ (And.intro rfl ?_)
        refine Exists.intro _ (And.intro rfl ?_)
        refine Exists.intro _ (And.intro rfl ?_)
        refine Exists.intro _ (And.intro rfl ?_)
        refine And.intro (fun b1 => ?_) (fun b1 => absurd (show ¬ 0 < (i : Int) from of_decide_eq_false b1) (by omega))
        refine And.intro (fun z1 => ?_) (fun z1 => ?_)
        · refine And.intro (fun a9 => ?_) (fun a9 => absurd (show ¬ (i : Int) = 9 from of_decide_eq_false a9) (by omega))
          refine And.intro (fun a1 => absurd (of_decide_eq_false a1) (by omega)) (fun a1 => ?_)
          refine VCall.mk [0, 1] (s_fail o l.length c bad xs te) ⟨rfl, rfl, rfl⟩ ?_
          rintro _ _ ⟨rfl, rfl⟩
          exact VRet.mk [0, 1, 2] (iv 0) [.cells (rdc 2 0 0 0 true) T_pack_Reader, .arr xs te, .arr [] T_uint8] ⟨rfl, rfl, rfl⟩ (.inr ⟨hfail ⟨hk128, .inr ⟨h9.1, by omega⟩⟩, rfl, rfl⟩)
        · have z1 : decide (l[i] = 0) = true := z1
          have z1 := of_decide_eq_true z1
          omega
  · have h := of_decide_eq_false h
    have hnone : rdN l least most = none := by
      have hi2 : i = mm.toNat := by simp only at h; omega
      have : rd l 0 0 = none := by
        rcases hinv with ⟨h9, n, _, _, hr⟩ | ⟨_, hr⟩
        · rw [hr, List.drop_eq_nil_of_le (by omega), rd_end]
        · exact hr
      simp [rdN, this]
    refine VCall.mk [0, 1] (s_fail o l.length c bad xs te) ⟨rfl, rfl, rfl⟩ ?_
    rintro _ _ ⟨rfl, rfl⟩
    exact VRet.mk [0, 1, 2] (iv 0) [.cells (rdc 2 0 0 0 true) T_pack_Reader, .arr xs te, .arr [] T_uint8] ⟨rfl, rfl, rfl⟩ (.inr ⟨hnone, rfl, rfl⟩)
end Go.Proofs

namespace Go.Proofs
open Go Go.V
set_option maxRecDepth 100000
set_option linter.unusedVariables false

theorem s_Read (l : List Int) (xs : List Value) (te : TypeId) (o c : Nat) (hb : Brow xs o c l) (hl : l.length ≤ 10000000) :
    Ctr Tryz.prog F_pack_Read [.sl 0 o l.length c] [.arr xs te] (fun x H => ∃ o' c' ys, x = .ptr 2 0 ∧ H = [.arr xs te, .arr ys T_uint8, .cells (rdc 1 o' l.length c' false) T_pack_Reader] ∧ Brow ys o' c' l) := by
  refine i_pack_Read.spec follows ?_
  refine VCall.mk [0] (s_bytes_Clone l xs te o c hb hl) ⟨rfl, rfl, rfl⟩ ?_
  rintro _ _ ⟨o', c', ys, rfl, rfl, hB⟩
  exact VRet.mk [0, 1, 2] (.ptr 2 0) [.arr xs te, .arr ys T_uint8, .cells (rdc 1 o' l.length c' false) T_pack_Reader] ⟨rfl, rfl, rfl⟩ ⟨o', c', ys, rfl, rfl, hB⟩

/-- Numbers of a clock. -/
def rdVs : Nat → List Int → Option ((Nat → Int) × List Int)
  | 0, l => some (fun _ => 0, l)
  | k + 1, l => match rdVs k l with
    | none => none
    | some (v, l') => match rdN l' 0 1099511627776 with
      | none => none
      | some (x, l'') => some (upv v k x, l'')
structure VXr where
  i : Nat
  v : Nat → Int
  st : Option (List Int × Nat × Nat)
theorem s_vec_Get (l : List Int) (o c : Nat) (xs : List Value) (te : TypeId) (hb : Brow xs o c l) (hby : ∀ b ∈ l, 0 ≤ b ∧ b < 256) :
    Ctr Tryz.prog F_vec_Get [.ptr 0 0] [.cells (rdc 1 o l.length c false) T_pack_Reader, .arr xs te]
    (fun x H => (∃ v l', rdVs 7 l = some (v, l') ∧ x = .agg (vcells v) ∧ ∃ o' c', H = [.cells (rdc 1 o' l'.length c' false) T_pack_Reader, .arr xs te] ∧ Brow xs o' c' l' ∧ l' <:+ l) ∨
      (rdVs 7 l = none ∧ x = .agg (vcells fun _ => 0) ∧ H = [.cells (rdc 2 0 0 0 true) T_pack_Reader, .arr xs te, .arr [] T_uint8])) := by
  refine i_vec_Get.spec follows ?_
  refine VLoop.mk VXr (fun x => [(0, .ptr 0 0), (2, .ptr 2 0), (3, .ptr 3 0), (5, iv x.i)])
    (fun x => match x.st with
      | some (l', o', c') => [.cells (rdc 1 o' l'.length c' false) T_pack_Reader, .arr xs te, .cells (vcells fun _ => 0) T_vec_Vec, .cells (vcells x.v) T_vec_Vec]
      | none => [.cells (rdc 4 0 0 0 true) T_pack_Reader, .arr xs te, .cells (vcells fun _ => 0) T_vec_Vec, .cells (vcells x.v) T_vec_Vec, .arr [] T_uint8])
    (fun x => x.i ≤ 7 ∧ match x.st with
      | some (l', o', c') => rdVs x.i l = some (x.v, l') ∧ Brow xs o' c' l' ∧ l' <:+ l
      | none => rdVs x.i l = none) (fun x => 7 - x.i) ⟨0, fun _ => 0, some (l, o, c)⟩ [0, 1, 2, 3] ⟨⟨Nat.zero_le _, rfl, hb, List.suffix_refl _⟩, rfl, rfl, rfl⟩ ?_
  rintro ⟨i, v, _ | ⟨l', o', c'⟩⟩ ⟨hi, hinv⟩ g
  · have hi : i ≤ 7 := hi
    have hinv : rdVs i l = none := hinv
    refine And.intro (fun h => ?_) (fun h => ?_)
    · have h := of_decide_eq_true h
      have hi7 : 0 ≤ (i : Int) ∧ (i : Int) < 7 := ⟨by omega, h⟩
      have hw : IntKind.i64.wrap ((i : Int) + 1) = ((i + 1 : Nat) : Int) := wrap64 (by omega)
      have hn : rdVs (i + 1) l = none := by rw [rdVs, hinv]
      refine VCall.mk [0, 4] (s_Num [] 0 1099511627776 0 0 true [] T_uint8 brow_nil (by simp)) ⟨rfl, rfl, rfl⟩ ?_
      rintro _ _ (⟨x, l2, hr, _⟩ | ⟨_, rfl, rfl⟩)
      · simp [rdN, rd] at hr
      refine And.intro hi7 (Exists.intro _ (And.intro (vcells_put v 0 hi7 []) ?_))
      refine Exists.intro _ (And.intro hw ?_)
      exact Exists.intro ⟨i + 1, upv v (i : Int).toNat 0, none⟩ (Exists.intro [0, 1, 2, 3, 5] (And.intro ⟨⟨by simp only at h ⊢; omega, hn⟩, by simp only at h ⊢; omega⟩ ⟨rfl, rfl, rfl⟩))
    · have h := of_decide_eq_false h
      have h7 : i = 7 := by simp only at h; omega
      subst h7
      refine VCall.mk [0, 4] (s_Bad 0 0 0 true [] T_uint8) ⟨rfl, rfl, rfl⟩ ?_
      rintro _ _ ⟨rfl, rfl⟩
      refine And.intro (fun _ => ?_) (fun h => absurd h (by decide))
      exact VRet.mk [0, 1, 4] (.agg (vcells fun _ => 0)) [.cells (rdc 2 0 0 0 true) T_pack_Reader, .arr xs te, .arr [] T_uint8] ⟨rfl, rfl, rfl⟩ (.inr ⟨hinv, rfl, rfl⟩)
  · have hi : i ≤ 7 := hi
    obtain ⟨hr, hB, hS⟩ : rdVs i l = some (v, l') ∧ Brow xs o' c' l' ∧ l' <:+ l := hinv
    refine And.intro (fun h => ?_) (fun h => ?_)
    · have h := of_decide_eq_true h
      have hi7 : 0 ≤ (i : Int) ∧ (i : Int) < 7 := ⟨by omega, h⟩
      have hw : IntKind.i64.wrap ((i : Int) + 1) = ((i + 1 : Nat) : Int) := wrap64 (by omega)
      refine VCall.mk [0, 1] (s_Num l' 0 1099511627776 o' c' false xs te hB (fun b hb => hby b (hS.subset hb))) ⟨rfl, rfl, rfl⟩ ?_
      rintro _ _ (⟨x, l2, hrN, rfl, o2, c2, rfl, hB2, hS2⟩ | ⟨hrN, rfl, rfl⟩)
      · have hn : rdVs (i + 1) l = some (upv v i x, l2) := by rw [rdVs, hr]; simp only [hrN]
        refine And.intro hi7 (Exists.intro _ (And.intro (vcells_put v x hi7 []) ?_))
        refine Exists.intro _ (And.intro hw ?_)
        exact Exists.intro ⟨i + 1, upv v (i : Int).toNat x, some (l2, o2, c2)⟩ (Exists.intro [0, 1, 2, 3] (And.intro ⟨⟨by simp only at h ⊢; omega, hn, hB2, hS2.trans hS⟩, by simp only at h ⊢; omega⟩ ⟨rfl, rfl, rfl⟩))
      · have hn : rdVs (i + 1) l = none := by rw [rdVs, hr]; simp only [hrN]
        refine And.intro hi7 (Exists.intro _ (And.intro (vcells_put v 0 hi7 []) ?_))
        refine Exists.intro _ (And.intro hw ?_)
        exact Exists.intro ⟨i + 1, upv v (i : Int).toNat 0, none⟩ (Exists.intro [0, 1, 2, 3, 4] (And.intro ⟨⟨by simp only at h ⊢; omega, hn⟩, by simp only at h ⊢; omega⟩ ⟨rfl, rfl, rfl⟩))
    · have h := of_decide_eq_false h
      have h7 : i = 7 := by simp only at h; omega
      subst h7
      refine VCall.mk [0, 1] (s_Bad o' l'.length c' false xs te) ⟨rfl, rfl, rfl⟩ ?_
      rintro _ _ ⟨rfl, rfl⟩
      refine And.intro (fun h => absurd h (by decide)) (fun _ => ?_)
      exact VRet.mk [0, 1] (.agg (vcells v)) [.cells (rdc 1 o' l'.length c' false) T_pack_Reader, .arr xs te] ⟨rfl, rfl, rfl⟩ (.inl ⟨v, l', hr, rfl, o', c', rfl, hB, hS⟩)
end Go.Proofs

