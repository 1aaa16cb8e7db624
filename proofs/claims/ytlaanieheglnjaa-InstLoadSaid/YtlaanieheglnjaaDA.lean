/- Part of the proof that the statement named in the last file holds: lemmas of the prover's own. No conditions. -/
import Derived.Test.YtlaanieheglnjaaVC
import Derived.Test.YtlaanieheglnjaaK20
import Derived.Test.YtlaanieheglnjaaVD
namespace Go.Proofs
open Go Go.V
set_option maxRecDepth 100000
set_option linter.unusedVariables false

def isRep (n : Int) : Bool := decide (0 ≤ n ∧ n < 7)
theorem isRep_iff {n : Int} : isRep n = true ↔ 0 ≤ n ∧ n < 7 := by simp [isRep]
theorem isRep_not {n : Int} : isRep n = false ↔ ¬ (0 ≤ n ∧ n < 7) := by simp [isRep]
theorem s_vec_Rep (n : Int) : Ctr Try.prog F_vec_Rep [iv n] [] (fun v H => v = bv (isRep n) ∧ H = []) := by
  refine i_vec_Rep.spec follows ?_
  refine And.intro (fun h => ?_) (fun h => ?_)
  · refine VRet.mk [] (bv _) [] ⟨rfl, rfl, rfl⟩ ⟨?_, rfl⟩
    show bv _ = bv _
    have h := of_decide_eq_true h
    simp [isRep, h]
  · refine VRet.mk [] (bv _) [] ⟨rfl, rfl, rfl⟩ ⟨?_, rfl⟩
    show bv _ = bv _
    have h := of_decide_eq_false h
    simp [isRep, h]
abbrev encD (d : Int × Int) : Value := .agg #[.int .i64 d.1, .int .i64 d.2]
theorem keyT_Dot {mt et : TypeId} (h : Try.prog.underlying mt = some (.map T_api_Dot et)) : KeyT Try.prog mt et encD where
  ex := by
    have h1 : clsT Try.prog 2 T_api_Dot = some [.i, .i] := by kernel_rfl
    have h2 : isAggT Try.prog T_api_Dot = some true := by kernel_rfl
    refine ⟨T_api_Dot, 2, _, h, by omega, by omega, h1, fun a => ⟨[.int .i64 a.1, .int .i64 a.2], by simp [mkV, h2], rfl, fun b ys hb hl => ?_⟩⟩
    have : ys = [.int .i64 b.1, .int .i64 b.2] := by
      simp only [mkV, h2, if_true] at hb
      injection hb with hb
      have := congrArg Array.toList hb
      simpa using this.symm
    subst this
    refine ⟨decide (a.1 = b.1) && decide (a.2 = b.2), by simp [eqV, eq1V], ?_⟩
    simp [Prod.ext_iff]
  bits := fun a => by simp [Instr.sameBits]
theorem s_isNaN_int (n : Int) : Ctr Try.prog F_cmp_isNaN_int [iv n] [] (fun v H => v = bv false ∧ H = []) := by
  refine i_cmp_isNaN_int.spec follows ?_
  refine VRet.mk [] (bv _) [] ⟨rfl, rfl, rfl⟩ ⟨?_, rfl⟩
  show bv _ = bv _
  simp
theorem s_isNaN_int64 (n : Int) : Ctr Try.prog F_cmp_isNaN_int64 [iv n] [] (fun v H => v = bv false ∧ H = []) := by
  refine i_cmp_isNaN_int64.spec follows ?_
  refine VRet.mk [] (bv _) [] ⟨rfl, rfl, rfl⟩ ⟨?_, rfl⟩
  show bv _ = bv _
  simp
def cmpI (a b : Int) : Int := if a < b then -1 else if b < a then 1 else 0
theorem s_Compare_int (a b : Int) : Ctr Try.prog F_cmp_Compare_int [iv a, iv b] [] (fun v H => v = iv (cmpI a b) ∧ H = []) := by
  refine i_cmp_Compare_int.spec follows ?_
  refine VCall.mk [] (s_isNaN_int a) ⟨rfl, rfl, rfl⟩ ?_
  rintro _ _ ⟨rfl, rfl⟩
  refine VCall.mk [] (s_isNaN_int b) ⟨rfl, rfl, rfl⟩ ?_
  rintro _ _ ⟨rfl, rfl⟩
  refine And.intro (fun h => Bool.noConfusion h) (fun _ => ?_)
  refine And.intro (fun h => Bool.noConfusion h) (fun _ => ?_)
  refine And.intro (fun h => ?_) (fun h => ?_)
  · refine VRet.mk [] (iv _) [] ⟨rfl, rfl, rfl⟩ ⟨?_, rfl⟩
    show iv _ = iv _
    have h := of_decide_eq_true h
    simp [cmpI, h]
  have h := of_decide_eq_false h
  refine And.intro (fun h2 => ?_) (fun h2 => ?_)
  · refine VRet.mk [] (iv _) [] ⟨rfl, rfl, rfl⟩ ⟨?_, rfl⟩
    show iv _ = iv _
    have h2 := of_decide_eq_true h2
    simp [cmpI, h, h2]
  · refine VRet.mk [] (iv _) [] ⟨rfl, rfl, rfl⟩ ⟨?_, rfl⟩
    show iv _ = iv _
    have h2 := of_decide_eq_false h2
    simp [cmpI, h, h2]
theorem s_Compare_int64 (a b : Int) : Ctr Try.prog F_cmp_Compare_int64 [iv a, iv b] [] (fun v H => v = iv (cmpI a b) ∧ H = []) := by
  refine i_cmp_Compare_int64.spec follows ?_
  refine VCall.mk [] (s_isNaN_int64 a) ⟨rfl, rfl, rfl⟩ ?_
  rintro _ _ ⟨rfl, rfl⟩
  refine VCall.mk [] (s_isNaN_int64 b) ⟨rfl, rfl, rfl⟩ ?_
  rintro _ _ ⟨rfl, rfl⟩
  refine And.intro (fun h => Bool.noConfusion h) (fun _ => ?_)
  refine And.intro (fun h => Bool.noConfusion h) (fun _ => ?_)
  refine And.intro (fun h => ?_) (fun h => ?_)
  · refine VRet.mk [] (iv _) [] ⟨rfl, rfl, rfl⟩ ⟨?_, rfl⟩
    show iv _ = iv _
    have h := of_decide_eq_true h
    simp [cmpI, h]
  have h := of_decide_eq_false h
  refine And.intro (fun h2 => ?_) (fun h2 => ?_)
  · refine VRet.mk [] (iv _) [] ⟨rfl, rfl, rfl⟩ ⟨?_, rfl⟩
    show iv _ = iv _
    have h2 := of_decide_eq_true h2
    simp [cmpI, h, h2]
  · refine VRet.mk [] (iv _) [] ⟨rfl, rfl, rfl⟩ ⟨?_, rfl⟩
    show iv _ = iv _
    have h2 := of_decide_eq_false h2
    simp [cmpI, h, h2]
def orI : List Int → Int
  | [] => 0
  | x :: l => if x ≠ 0 then x else orI l
theorem s_Or_int (l : List Int) (c : Nat) (hl : l.length < 1000000) : Ctr Try.prog F_cmp_Or_int [.sl 0 0 l.length c] [.arr (l.map (.int .i64)) T_int] (fun v H => v = iv (orI l) ∧ H = [.arr (l.map (.int .i64)) T_int]) := by
  refine i_cmp_Or_int.spec follows ?_
  refine VLoop.mk Nat (fun i => [(0, .sl 0 0 l.length c), (3, iv 0), (6, .sl 0 0 l.length c), (7, iv l.length), (8, iv i)]) (fun i => [.arr (l.map (.int .i64)) T_int])
    (fun i => i ≤ l.length ∧ orI l = orI (l.drop i)) (fun i => l.length - i) 0 [0] ⟨⟨Nat.zero_le _, rfl⟩, rfl, rfl, rfl⟩ ?_
  rintro i ⟨hi, ho⟩ g
  refine And.intro (fun h => ?_) (fun h => ?_)
  · have h := of_decide_eq_true h
    have hil : i < l.length := by omega
    have hg : (l.map (Value.int .i64))[0 + (i : Int).toNat * 1]? = some (.int .i64 l[i]) := by simp [hil]
    have hd : l.drop i = l[i] :: l.drop (i + 1) := (List.drop_eq_getElem_cons hil)
    have hw : IntKind.i64.wrap ((i : Int) + 1) = ((i + 1 : Nat) : Int) := wrap64 (by have := hl; omega)
    refine And.intro ⟨Int.natCast_nonneg i, h, by simp⟩ (Exists.intro _ (And.intro hg ?_))
    refine And.intro (fun h2 => ?_) (fun h2 => ?_)
    · refine VRet.mk [0] (iv _) [.arr (l.map (.int .i64)) T_int] ⟨rfl, rfl, rfl⟩ ⟨?_, rfl⟩
      show iv _ = iv _
      have h2 : l[i] ≠ 0 := by simpa using h2
      rw [ho, hd]; simp [orI, h2]
    · refine Exists.intro _ (And.intro hw ?_)
      refine Exists.intro (i + 1) (Exists.intro [0] (And.intro ⟨⟨hil, ?_⟩, by omega⟩ ⟨rfl, rfl, rfl⟩))
      have h2 : l[i] = 0 := by simpa using h2
      rw [ho, hd]; simp [orI, h2]
  · have h := of_decide_eq_false h
    refine VRet.mk [0] (iv _) [.arr (l.map (.int .i64)) T_int] ⟨rfl, rfl, rfl⟩ ⟨?_, rfl⟩
    show iv _ = iv _
    rw [ho, List.drop_eq_nil_of_le (by omega)]; rfl
def cmpD (x y : Int × Int) : Int := orI [cmpI x.1 y.1, cmpI x.2 y.2]
theorem s_dots_Order (a b c d : Int) : Ctr Try.prog F_dots_Order [.agg (dcells a b), .agg (dcells c d)] [] (fun v H => v = iv (cmpD (a, b) (c, d)) ∧ H = []) := by
  refine i_dots_Order.spec follows ?_
  refine VCall.mk [] (s_Compare_int a c) ⟨rfl, rfl, rfl⟩ ?_
  rintro _ _ ⟨rfl, rfl⟩
  refine And.intro rfl (And.intro rfl ?_)
  refine VCall.mk [] (s_Compare_int64 b d) ⟨rfl, rfl, rfl⟩ ?_
  rintro _ _ ⟨rfl, rfl⟩
  refine VCall.mk [2] (s_Or_int [cmpI a c, cmpI b d] 2 (by simp)) ⟨rfl, rfl, rfl⟩ ?_
  rintro _ _ ⟨rfl, rfl⟩
  exact VRet.mk [] (iv _) [] ⟨rfl, rfl, rfl⟩ ⟨rfl, rfl⟩
def vmax (v w : Nat → Int) : Nat → Int := fun i => if w i > v i then w i else v i
def mrg (v w : Nat → Int) (i : Nat) : Nat → Int := fun j => if j < i then vmax v w j else v j
theorem s_vec_Merge (v w : Nat → Int) : Ctr Try.prog F_vec_Merge [.agg (vcells v), .agg (vcells w)] [] (fun x H => x = .agg (vcells (vmax v w)) ∧ H = []) := by
  refine i_vec_Merge.spec follows ?_
  refine VLoop.mk (Nat × (Nat → Int)) (fun x => [(2, .ptr 0 0), (3, .ptr 1 0), (4, .ptr 2 0), (6, iv x.1)]) (fun x => [.cells (vcells x.2) 33, .cells (vcells w) 33, .cells (vcells fun _ => 0) 33])
    (fun x => x.1 ≤ 7 ∧ ∀ j, j < 7 → x.2 j = mrg v w x.1 j) (fun x => 7 - x.1) (0, v) [0, 1, 2] ⟨⟨Nat.zero_le _, fun j _ => by simp [mrg]⟩, rfl, rfl, rfl⟩ ?_
  rintro ⟨i, u⟩ ⟨hi, hu⟩ g
  simp only at hi hu
  refine And.intro (fun h => ?_) (fun h => ?_)
  · have h := of_decide_eq_true h
    have hi7 : 0 ≤ (i : Int) ∧ (i : Int) < 7 := ⟨by omega, h⟩
    have hw : IntKind.i64.wrap ((i : Int) + 1) = ((i + 1 : Nat) : Int) := wrap64 (by omega)
    refine And.intro hi7 (Exists.intro _ (And.intro (vcells_get' u hi7 []) ?_))
    refine And.intro hi7 (Exists.intro _ (And.intro (vcells_get' w hi7 []) ?_))
    refine And.intro hi7 (Exists.intro _ (And.intro (vcells_put u (if w (i : Int).toNat > u (i : Int).toNat then w (i : Int).toNat else u (i : Int).toNat) hi7 []) ?_))
    refine Exists.intro _ (And.intro hw ?_)
    refine Exists.intro (i + 1, upv u (i : Int).toNat (if w (i : Int).toNat > u (i : Int).toNat then w (i : Int).toNat else u (i : Int).toNat)) (Exists.intro [0, 1, 2] (And.intro ⟨⟨by simp only at h ⊢; omega, fun j hj => ?_⟩, by simp only at h ⊢; omega⟩ ⟨rfl, rfl, rfl⟩))
    rw [Int.toNat_natCast]
    simp only [upv, mrg]
    by_cases hji : j = i
    · subst hji
      have huj : u j = v j := by rw [hu j hj, mrg, if_neg (by omega)]
      simp [huj, vmax]
    · rw [if_neg hji, hu j hj, mrg]
      by_cases hlt : j < i
      · rw [if_pos hlt, if_pos (by omega)]
      · rw [if_neg hlt, if_neg (by omega)]
  · have h := of_decide_eq_false h
    have h7 : i = 7 := by simp only at h; omega
    subst h7
    refine VRet.mk [] (.agg (vcells u)) [] ⟨rfl, rfl, rfl⟩ ⟨?_, rfl⟩
    have e : ∀ j, j < 7 → u j = vmax v w j := fun j hj => by rw [hu j hj, mrg, if_pos hj]
    show SV.agg [iv (u 0), iv (u 1), iv (u 2), iv (u 3), iv (u 4), iv (u 5), iv (u 6)] = _
    rw [e 0 (by omega), e 1 (by omega), e 2 (by omega), e 3 (by omega), e 4 (by omega), e 5 (by omega), e 6 (by omega)]
end Go.Proofs

namespace Go.Proofs
open Go Go.V
set_option maxRecDepth 100000
set_option linter.unusedVariables false

/-- One heap holds all that another holds. -/
def Sub (h h' : Nat → Option Obj) : Prop := ∀ b o, h b = some o → h' b = some o
theorem Sub.refl (h : Nat → Option Obj) : Sub h h := fun _ _ e => e
theorem Sub.trans {a b c : Nat → Option Obj} (h : Sub a b) (h' : Sub b c) : Sub a c := fun x o e => h' x o (h x o e)
theorem Sub.upd {h : Nat → Option Obj} {b : Nat} {o : Obj} (hn : h b = none) : Sub h (updh h b o) := fun x o' e => by
  unfold updh
  split
  · rename_i hx; subst hx; rw [hn] at e; cases e
  · exact e
/-- k cells at an address of a heap. -/
def RowH (h : Nat → Option Obj) (a : Addr) (k : Nat) (ys : List Value) : Prop := (k = 0 ∧ ys = []) ∨
  ∃ (b o : Nat) (xs : List Value) (e : TypeId) (fr : Nat × Nat), a = ⟨b, o, none⟩ ∧ h b = some (.cells xs.toArray e fr) ∧ ys = (xs.drop o).take k
theorem RowH.mono {h h' : Nat → Option Obj} {a : Addr} {k : Nat} {ys : List Value} (hr : RowH h a k ys) (hs : Sub h h') : RowH h' a k ys := by
  rcases hr with h1 | ⟨b, o, xs, e, fr, h1, h2, h3⟩
  · exact .inl h1
  · exact .inr ⟨b, o, xs, e, fr, h1, hs _ _ h2, h3⟩
theorem RowH.b {h : Nat → Option Obj} {a : Addr} {k : Nat} {ys : List Value} (hr : RowH h a k ys) {H : List SO} {j : Nat} (hj : obj H j = .heap h) : RowB H a k ys := by
  rcases hr with h1 | ⟨b, o, xs, e, fr, h1, h2, h3⟩
  · exact .inl h1
  · exact .inr ⟨j, b, o, xs, e, fr, h1, by rw [HasB, hj]; exact h2, h3⟩
/-- Bytes behind a value, in a heap. -/
def ByIs (h : Nat → Option Obj) (v : Value) (l : List Int) : Prop := (∀ x ∈ l, 0 ≤ x ∧ x < 256) ∧
  ((v = .slice none 0 0 ∧ l = []) ∨ ∃ (a : Addr) (n c : Nat), v = .slice (some a) n c ∧ l.length = n ∧ RowH h a n (l.map (Value.int .u8)))
theorem ByIs.mono {h h' : Nat → Option Obj} {v : Value} {l : List Int} (hb : ByIs h v l) (hs : Sub h h') : ByIs h' v l := by
  refine ⟨hb.1, ?_⟩
  rcases hb.2 with h1 | ⟨a, n, c, h1, h2, h3⟩
  · exact .inl h1
  · exact .inr ⟨a, n, c, h1, h2, h3.mono hs⟩
theorem ByIs.nil (h : Nat → Option Obj) : ByIs h (.slice none 0 0) [] := ⟨by simp, .inl ⟨rfl, rfl⟩⟩
theorem ByIs.shape {h : Nat → Option Obj} {v : Value} {l : List Int} (hb : ByIs h v l) : ∃ a c, v = .slice a l.length c := by
  rcases hb.2 with ⟨rfl, rfl⟩ | ⟨a, n, c, rfl, rfl, _⟩
  · exact ⟨none, 0, rfl⟩
  · exact ⟨_, c, rfl⟩

theorem s_CloneB (h : Nat → Option Obj) (v : Value) (l : List Int) (hb : ByIs h v l) (hl : l.length ≤ 10000000) :
    Ctr Try.prog F_bytes_Clone [.raw v] [.heap h] (fun x H => ∃ v' h', x = .raw v' ∧ H = [.heap h'] ∧ Sub h h' ∧ ByIs h' v' l) := by
  obtain ⟨hby, hb⟩ := hb
  rcases hb with ⟨rfl, rfl⟩ | ⟨a, n, c, rfl, hn, hR⟩
  · refine i_bytes_Clone.spec follows ?_
    exact VRet.mk [0] (.raw (.slice none 0 0)) [.heap h] ⟨rfl, rfl, rfl⟩ ⟨_, h, rfl, rfl, Sub.refl h, ByIs.nil h⟩
  · have hR1 : RowH h a (n * 1) (l.map (Value.int .u8)) := by rw [Nat.mul_one]; exact hR
    refine i_bytes_Clone.spec follows ?_
    refine Exists.intro (l.map (Value.int .u8)) (And.intro (hR1.b (j := 0) rfl) ?_)
    refine And.intro ⟨⟨Nat.zero_le _, by simp, rfl⟩, ⟨by simp [hn], cellsOK_ints l⟩, by omega⟩ ?_
    intro zs' o' c' hz
    have hz2 := hz.2.2
    refine VRet.view (VView.pubArr 2 0 ⟨rfl, rfl⟩ (fun h0 => ?_) (fun b' fr' hb' hfr' => ?_))
    · subst h0
      have hl0 : l = [] := by
        have := congrArg List.length hz2
        simp at this
        exact List.eq_nil_of_length_eq_zero this.symm
      subst hl0
      simp only [List.length_nil] at hn
      subst hn
      have hc : c' = 0 := by have := hz.2.1; simp at this; omega
      subst hc
      refine VView.done ⟨_, rfl, VRet1.mk [0] (.raw (.slice none 0 0)) [.heap h] ⟨rfl, rfl, rfl⟩ ⟨_, h, rfl, rfl, Sub.refl h, ByIs.nil h⟩⟩
    · refine VView.done ⟨_, rfl, VRet1.mk [0] (.raw (.slice (some ⟨b', o', none⟩) (0 + n) c')) [.heap (updh h b' (.cells zs'.toArray T_uint8 fr'))] ⟨rfl, rfl, rfl⟩ ⟨_, _, rfl, rfl, Sub.upd hb', hby, .inr ⟨⟨b', o', none⟩, 0 + n, c', rfl, by omega, .inr ⟨b', o', zs', T_uint8, fr', rfl, by simp [updh], ?_⟩⟩⟩⟩
      rw [Nat.mul_one] at hz2
      rw [hz2]; simp
end Go.Proofs

namespace Go.Proofs
open Go Go.V
set_option maxRecDepth 100000
set_option linter.unusedVariables false

theorem vcells_getA (v : Nat → Int) {n : Int} (h : 0 ≤ n ∧ n < 7) : (vcells v)[n.toNat * 1]? = some (iv (v n.toNat)) := by
  have := vcells_get' v h []
  simpa using this

theorem s_ballot_rep (n : Int) : Ctr Try.prog F_ballot_rep [iv n] [] (fun v H => v = bv (isRep n) ∧ H = []) := by
  refine i_ballot_rep.spec follows ?_
  refine And.intro (fun h => ?_) (fun h => ?_) <;>
  · refine VRet.mk [] (bv _) [] ⟨rfl, rfl, rfl⟩ ⟨?_, rfl⟩
    show bv _ = bv _
    first | have h := of_decide_eq_true h | have h := of_decide_eq_false h
    simp [isRep, h]
abbrev bcells (b : Int × Int) : List SV := [iv b.1, iv b.2]
def goodB (b : Int × Int) : Bool := decide (0 ≤ b.1) && (decide (b.1 ≤ 1099511627776) && isRep b.2)
theorem s_ballot_Good (b : Int × Int) : Ctr Try.prog F_ballot_Good [.agg (bcells b)] [] (fun v H => v = bv (goodB b) ∧ H = []) := by
  refine i_ballot_Good.spec follows ?_
  refine And.intro (fun h => ?_) (fun h => ?_)
  · refine And.intro (fun h2 => ?_) (fun h2 => ?_)
    · refine VCall.mk [] (s_ballot_rep _) ⟨rfl, rfl, rfl⟩ ?_
      rintro _ _ ⟨rfl, rfl⟩
      refine VRet.mk [] (bv _) [] ⟨rfl, rfl, rfl⟩ ⟨?_, rfl⟩
      show bv _ = bv _
      simp [goodB, h, h2]
    · refine VRet.mk [] (bv _) [] ⟨rfl, rfl, rfl⟩ ⟨?_, rfl⟩
      show bv _ = bv _
      simp [goodB, h, h2]
  · refine VRet.mk [] (bv _) [] ⟨rfl, rfl, rfl⟩ ⟨?_, rfl⟩
    show bv _ = bv _
    simp [goodB, h]
theorem s_ballot_Cmp (a b : Int × Int) : Ctr Try.prog F_ballot_Cmp [.agg (bcells a), .agg (bcells b)] [] (fun v H => v = iv (cmpD a b) ∧ H = []) := by
  refine i_ballot_Cmp.spec follows ?_
  refine VCall.mk [] (s_Compare_int64 a.1 b.1) ⟨rfl, rfl, rfl⟩ ?_
  rintro _ _ ⟨rfl, rfl⟩
  refine And.intro rfl (And.intro rfl ?_)
  refine VCall.mk [] (s_Compare_int a.2 b.2) ⟨rfl, rfl, rfl⟩ ?_
  rintro _ _ ⟨rfl, rfl⟩
  refine VCall.mk [2] (s_Or_int [cmpI a.1 b.1, cmpI a.2 b.2] 2 (by simp)) ⟨rfl, rfl, rfl⟩ ?_
  rintro _ _ ⟨rfl, rfl⟩
  exact VRet.mk [] (iv _) [] ⟨rfl, rfl, rfl⟩ ⟨rfl, rfl⟩

def dotB (d : Int × Int) : Bool := isRep d.1 && (decide (1 ≤ d.2) && decide (d.2 ≤ 1000))
theorem s_inst_Dot (d : Int × Int) : Ctr Try.prog F_inst_Dot [.agg (dcells d.1 d.2)] [] (fun v H => v = bv (dotB d) ∧ H = []) := by
  refine i_inst_Dot.spec follows ?_
  refine VCall.mk [] (s_vec_Rep _) ⟨rfl, rfl, rfl⟩ ?_
  rintro _ _ ⟨rfl, rfl⟩
  refine And.intro (fun h => ?_) (fun h => ?_)
  · refine And.intro (fun h2 => ?_) (fun h2 => ?_) <;>
    · refine VRet.mk [] (bv _) [] ⟨rfl, rfl, rfl⟩ ⟨?_, rfl⟩
      show bv _ = bv _
      simp [dotB, h, h2]
  · refine VRet.mk [] (bv _) [] ⟨rfl, rfl, rfl⟩ ⟨?_, rfl⟩
    show bv _ = bv _
    simp [dotB, h]

def depB (d : Nat → Int) : Bool := (List.range 7).all fun i => decide (0 ≤ d i) && decide (d i ≤ 1000)
theorem depB_iff {d : Nat → Int} : depB d = true ↔ ∀ i, i < 7 → 0 ≤ d i ∧ d i ≤ 1000 := by simp [depB]
def contentB (n : Nat) (seq : Int) (d : Nat → Int) : Bool := depB d && (decide (0 ≤ seq) && (decide (seq ≤ 1099511627776) && decide ((n : Int) ≤ 300)))
theorem s_inst_content (a : Option Addr) (n c : Nat) (seq : Int) (d : Nat → Int) : Ctr Try.prog F_inst_content [.raw (.slice a n c), iv seq, .agg (vcells d)] [] (fun v H => v = bv (contentB n seq d) ∧ H = []) := by
  refine i_inst_content.spec follows ?_
  refine VLoop.mk Nat (fun i => [(0, .raw (.slice a n c)), (1, iv seq), (9, .agg (vcells d)), (10, iv i)]) (fun i => [.cells (vcells d) 33])
    (fun i => i ≤ 7 ∧ ∀ j, j < i → 0 ≤ d j ∧ d j ≤ 1000) (fun i => 7 - i) 0 [0] ⟨⟨by omega, fun j hj => by omega⟩, rfl, rfl, rfl⟩ ?_
  rintro i ⟨hi, hd⟩ g
  refine And.intro (fun h => ?_) (fun h => ?_)
  · have h := of_decide_eq_true h
    have hi7 : 0 ≤ (i : Int) ∧ (i : Int) < 7 := ⟨by omega, h⟩
    have hw : IntKind.i64.wrap ((i : Int) + 1) = ((i + 1 : Nat) : Int) := wrap64 (by omega)
    refine And.intro hi7 (Exists.intro _ (And.intro (vcells_getA d hi7) ?_))
    have bad : ∀ p : Bool, ¬ (0 ≤ d (i : Int).toNat ∧ d (i : Int).toNat ≤ 1000) → contentB n seq d = false := by
      intro _ hp
      rw [Int.toNat_natCast] at hp
      have : depB d = false := by
        rw [Bool.eq_false_iff, Ne, depB_iff]
        exact fun hh => hp (hh i (by omega))
      simp [contentB, this]
    refine And.intro (fun h1 => ?_) (fun h1 => ?_)
    · have h1 := of_decide_eq_false h1
      refine And.intro (fun h2 => ?_) (fun h2 => ?_)
      · have h2 := of_decide_eq_true h2
        refine VRet.mk [] (bv false) [] ⟨rfl, rfl, rfl⟩ ⟨?_, rfl⟩
        rw [bad true (by omega)]
      · have h2 := of_decide_eq_false h2
        refine Exists.intro _ (And.intro hw ?_)
        refine Exists.intro (i + 1) (Exists.intro [0] (And.intro ⟨⟨by omega, fun j hj => ?_⟩, by omega⟩ ⟨rfl, rfl, rfl⟩))
        by_cases hji : j = i
        · subst hji; rw [Int.toNat_natCast] at h1 h2; omega
        · exact hd j (by omega)
    · have h1 := of_decide_eq_true h1
      refine VRet.mk [] (bv false) [] ⟨rfl, rfl, rfl⟩ ⟨?_, rfl⟩
      rw [bad true (by omega)]
  · have h := of_decide_eq_false h
    have h7 : i = 7 := by omega
    subst h7
    have hdd : depB d = true := depB_iff.2 hd
    refine And.intro (fun h => ?_) (fun h => ?_)
    · refine And.intro (fun h2 => ?_) (fun h2 => ?_) <;>
      · refine VRet.mk [] (bv _) [] ⟨rfl, rfl, rfl⟩ ⟨?_, rfl⟩
        show bv _ = bv _
        simp [contentB, hdd, h, h2]
    · refine VRet.mk [] (bv _) [] ⟨rfl, rfl, rfl⟩ ⟨?_, rfl⟩
      show bv _ = bv _
      simp [contentB, hdd, h]

def mostB (a b : Int × Int) : Int × Int := if 0 < cmpD b a then b else a
theorem cmpD_self (a : Int × Int) : cmpD a a = 0 := by simp [cmpD, orI, cmpI]
abbrev bcl (a : Int × Int) : List Value := [.int .i64 a.1, .int .i64 a.2]
theorem s_ballot_Most (a b : Int × Int) : Ctr Try.prog F_ballot_Most [.sl 0 0 2 2] [.arr (bcl a ++ bcl b) T_ballot_Ballot] (fun v H => v = .agg (bcells (mostB a b)) ∧ H = [.arr (bcl a ++ bcl b) T_ballot_Ballot]) := by
  refine i_ballot_Most.spec follows ?_
  refine And.intro (fun h => absurd (of_decide_eq_true h) (by decide)) (fun _ => ?_)
  refine And.intro ⟨by decide, by decide, by simp⟩ (Exists.intro (bcl a) (And.intro rfl ?_))
  refine VLoop.mk Nat (fun i => [(0, .sl 0 0 2 2), (2, .ptr 1 0), (3, .ptr 2 0), (13, .sl 0 0 2 2), (14, iv 2), (15, iv i)])
    (fun i => [.arr (bcl a ++ bcl b) T_ballot_Ballot, .cells [iv 0, iv 0] 30, .cells (bcells (if i ≤ 1 then a else mostB a b)) 30]) (fun i => i ≤ 2) (fun i => 2 - i) 0 [0, 1, 2] ⟨by omega, rfl, rfl, rfl⟩ ?_
  rintro i hi g
  refine And.intro (fun h => ?_) (fun h => ?_)
  · have h := of_decide_eq_true h
    match i, h with
    | 0, _ =>
      refine And.intro ⟨by decide, by decide, by simp⟩ (Exists.intro (bcl a) (And.intro rfl ?_))
      refine VCall.mk [] (s_ballot_Cmp a a) ⟨rfl, rfl, rfl⟩ ?_
      rintro _ _ ⟨rfl, rfl⟩
      refine And.intro (fun h => ?_) (fun h => ?_)
      · have h := of_decide_eq_true h
        rw [cmpD_self] at h; omega
      · refine Exists.intro 1 (And.intro (wrap64 (n := (0 : Int) + 1) (by omega)) ?_)
        exact Exists.intro 1 (Exists.intro [0, 1, 2] (And.intro ⟨by omega, by omega⟩ ⟨rfl, rfl, rfl⟩))
    | 1, _ =>
      refine And.intro ⟨by decide, by decide, by simp⟩ (Exists.intro (bcl b) (And.intro rfl ?_))
      refine VCall.mk [] (s_ballot_Cmp b a) ⟨rfl, rfl, rfl⟩ ?_
      rintro _ _ ⟨rfl, rfl⟩
      refine And.intro (fun h => ?_) (fun h => ?_)
      · have h := of_decide_eq_true h
        refine Exists.intro 2 (And.intro (wrap64 (n := (1 : Int) + 1) (by omega)) ?_)
        have hm : mostB a b = b := if_pos h
        refine Exists.intro 2 (Exists.intro [0, 1, 2] (And.intro ⟨by omega, by omega⟩ ⟨rfl, ?_, rfl⟩))
        show _ = [SO.arr (bcl a ++ bcl b) T_ballot_Ballot, .cells [iv 0, iv 0] 30, .cells (bcells (mostB a b)) 30]
        rw [hm]; rfl
      · have h := of_decide_eq_false h
        refine Exists.intro 2 (And.intro (wrap64 (n := (1 : Int) + 1) (by omega)) ?_)
        have hm : mostB a b = a := if_neg h
        refine Exists.intro 2 (Exists.intro [0, 1, 2] (And.intro ⟨by omega, by omega⟩ ⟨rfl, ?_, rfl⟩))
        show _ = [SO.arr (bcl a ++ bcl b) T_ballot_Ballot, .cells [iv 0, iv 0] 30, .cells (bcells (mostB a b)) 30]
        rw [hm]; rfl
    | i + 2, h => omega
  · have h := of_decide_eq_false h
    have h2 : i = 2 := by omega
    subst h2
    exact VRet.mk [0] (.agg (bcells (mostB a b))) [.arr (bcl a ++ bcl b) T_ballot_Ballot] ⟨rfl, rfl, rfl⟩ ⟨rfl, rfl⟩

structure MsgV where
  kind : Int
  dot : Int × Int
  b : Int × Int
  cmd : Value
  seq : Int
  deps : Nat → Int
abbrev mcells (m : MsgV) : List SV := [iv m.kind, iv m.dot.1, iv m.dot.2, iv m.b.1, iv m.b.2, .raw m.cmd, iv m.seq, iv (m.deps 0), iv (m.deps 1), iv (m.deps 2), iv (m.deps 3), iv (m.deps 4), iv (m.deps 5), iv (m.deps 6)]
def zeroD (d : Nat → Int) : Bool := decide (d 0 = 0) && (decide (d 1 = 0) && (decide (d 2 = 0) && (decide (d 3 = 0) && (decide (d 4 = 0) && (decide (d 5 = 0) && decide (d 6 = 0))))))
def mayB (m : MsgV) (n : Nat) : Bool := !(decide (m.kind < 1) || (decide (4 < m.kind) || (!(dotB m.dot) || (!(goodB m.b) || !(contentB n m.seq m.deps))))) &&
  (!(decide (m.kind = 4)) || (decide ((n : Int) = 0) && (decide (m.seq = 0) && zeroD m.deps)))
theorem s_inst_May (m : MsgV) (a : Option Addr) (n c : Nat) (hc : m.cmd = .slice a n c) : Ctr Try.prog F_inst_May [.agg (mcells m)] [] (fun v H => v = bv (mayB m n) ∧ H = []) := by
  obtain ⟨kind, dot, b, cmd, seq, deps⟩ := m
  simp only at hc
  subst hc
  refine i_inst_May.spec follows ?_
  have fin : ∀ (x : Bool), mayB ⟨kind, dot, b, .slice a n c, seq, deps⟩ n = x → VRet 0 (bv x) [.cells (mcells ⟨kind, dot, b, .slice a n c, seq, deps⟩) 35] (fun v H => v = bv (mayB ⟨kind, dot, b, .slice a n c, seq, deps⟩ n) ∧ H = []) := by
    intro x hx
    exact VRet.mk [] (bv x) [] ⟨rfl, rfl, rfl⟩ ⟨by rw [hx], rfl⟩
  refine And.intro (fun h1 => ?_) (fun h1 => ?_)
  rotate_left 1
  · exact fin _ (by simp [mayB, h1])
  refine And.intro (fun h2 => ?_) (fun h2 => ?_)
  rotate_left 1
  · exact fin _ (by simp [mayB, h1, h2])
  refine VCall.mk [] (s_inst_Dot dot) ⟨rfl, rfl, rfl⟩ ?_
  rintro _ _ ⟨rfl, rfl⟩
  refine And.intro (fun h3 => ?_) (fun h3 => ?_)
  rotate_left 1
  · exact fin _ (by simp [mayB, h1, h2, h3])
  refine VCall.mk [] (s_ballot_Good b) ⟨rfl, rfl, rfl⟩ ?_
  rintro _ _ ⟨rfl, rfl⟩
  refine And.intro (fun h4 => ?_) (fun h4 => ?_)
  rotate_left 1
  · exact fin _ (by simp [mayB, h1, h2, h3, h4])
  refine VCall.mk [] (s_inst_content a n c seq deps) ⟨rfl, rfl, rfl⟩ ?_
  rintro _ _ ⟨rfl, rfl⟩
  refine And.intro (fun h5 => ?_) (fun h5 => ?_)
  · exact fin _ (by simp [mayB, h1, h2, h3, h4, h5])
  refine And.intro (fun h6 => ?_) (fun h6 => ?_)
  rotate_left 1
  · exact fin _ (by simp [mayB, h1, h2, h3, h4, h5, h6])
  refine And.intro (fun h7 => ?_) (fun h7 => ?_)
  rotate_left 1
  · have h7' : n ≠ 0 := by
      have := of_decide_eq_false h7; omega
    exact fin _ (by simp [mayB, h1, h2, h3, h4, h5, h6, h7'])
  have h7' : n = 0 := by
    have := of_decide_eq_true h7; omega
  subst h7'
  refine And.intro (fun h8 => ?_) (fun h8 => ?_)
  rotate_left 1
  · exact fin _ (by simp [mayB, h1, h2, h3, h4, h5, h6, h8])
  refine fin _ ?_
  simp [mayB, h1, h2, h3, h4, h5, h6, h8, zeroD]
end Go.Proofs

namespace Go.Proofs
open Go Go.V
set_option maxRecDepth 100000
set_option linter.unusedVariables false

structure RecV where
  st : Int
  cmd : Value
  seq : Int
  deps : Nat → Int
  b : Int × Int
  a : Int × Int
abbrev rcells (r : RecV) : List SV := [iv r.st, .raw r.cmd, iv r.seq, iv (r.deps 0), iv (r.deps 1), iv (r.deps 2), iv (r.deps 3), iv (r.deps 4), iv (r.deps 5), iv (r.deps 6), iv r.b.1, iv r.b.2, iv r.a.1, iv r.a.2]
def encR (r : RecV) : Value := .agg #[.int .i64 r.st, r.cmd, .int .i64 r.seq, .int .i64 (r.deps 0), .int .i64 (r.deps 1), .int .i64 (r.deps 2), .int .i64 (r.deps 3), .int .i64 (r.deps 4), .int .i64 (r.deps 5), .int .i64 (r.deps 6), .int .i64 r.b.1, .int .i64 r.b.2, .int .i64 r.a.1, .int .i64 r.a.2]
def zeroV : RecV := ⟨0, .slice none 0 0, 0, fun _ => 0, (0, 0), (0, 0)⟩

theorem s_inst_copied (h : Nat → Option Obj) (r : RecV) (l : List Int) (hb : ByIs h r.cmd l) (hl : l.length ≤ 10000000) :
    Ctr Try.prog F_inst_copied [.agg (rcells r)] [.heap h] (fun x H => ∃ v h', x = .agg (rcells { r with cmd := v }) ∧ H = [.heap h'] ∧ Sub h h' ∧ ByIs h' v l) := by
  refine i_inst_copied.spec follows ?_
  refine VCall.mk [0] (s_CloneB h r.cmd l hb hl) ⟨rfl, rfl, rfl⟩ ?_
  rintro _ _ ⟨v, h', rfl, rfl, hs, hb'⟩
  obtain ⟨a, c, rfl⟩ := hb'.shape
  exact VRet.mk [0] (.agg (rcells { r with cmd := .slice a l.length c })) [.heap h'] ⟨rfl, rfl, rfl⟩ ⟨_, h', rfl, rfl, hs, hb'⟩
end Go.Proofs

namespace Go.Proofs
open Go Go.V
set_option maxRecDepth 100000
set_option linter.unusedVariables false

structure AR where
  st : Int
  cmd : List Int
  seq : Int
  deps : Nat → Int
  b : Int × Int
  a : Int × Int
def zeroA : AR := ⟨0, [], 0, fun _ => 0, (0, 0), (0, 0)⟩
structure RIs (h : Nat → Option Obj) (r : RecV) (R : AR) : Prop where
  st : r.st = R.st
  cmd : ByIs h r.cmd R.cmd
  seq : r.seq = R.seq
  deps : r.deps = R.deps
  b : r.b = R.b
  a : r.a = R.a
theorem RIs.mono {h h' : Nat → Option Obj} {r : RecV} {R : AR} (hr : RIs h r R) (hs : Sub h h') : RIs h' r R := { hr with cmd := hr.cmd.mono hs }
theorem RIs.zero (h : Nat → Option Obj) : RIs h zeroV zeroA := ⟨rfl, ByIs.nil h, rfl, rfl, rfl, rfl⟩
abbrev RM := List ((Int × Int) × RecV × Nat)
abbrev rmap (ms : RM) (c : Nat) : SO := .map (ents encD encR ms) c
abbrev tbl (k : Nat) : SO := .cells [.mp k] T_inst_Table
structure Tab (h : Nat → Option Obj) (ms : RM) (c : Nat) (T : Int × Int → AR) (B : Int) : Prop where
  get : ∀ d, (∃ r, MP.get ms d = some r ∧ RIs h r (T d)) ∨ (MP.get ms d = none ∧ T d = zeroA)
  key : ∀ x ∈ ms, dotB x.1 = true
  nd : (ms.map (·.1)).Nodup
  ok : MOK ms c
  seq : ∀ d, 0 ≤ (T d).seq ∧ (T d).seq ≤ B
  len : ∀ d, (T d).cmd.length ≤ 300
theorem Tab.mono {h h' : Nat → Option Obj} {ms : RM} {c : Nat} {T : Int × Int → AR} {B : Int} (ht : Tab h ms c T B) (hs : Sub h h') : Tab h' ms c T B :=
  { ht with get := fun d => (ht.get d).imp (fun ⟨r, h1, h2⟩ => ⟨r, h1, h2.mono hs⟩) id }
theorem kR : KeyT Try.prog T_map_api_Dot_inst_Rec T_inst_Rec encD := keyT_Dot (by kernel_rfl)
theorem lookR (ms : RM) (d : Int × Int) : LookupIs Try.prog T_map_api_Dot_inst_Rec (ents encD encR ms) (encD d) (encR ((MP.get ms d).getD zeroV)) ((MP.get ms d).isSome) := by
  have := lookup_is (encv := encR) kR (z := encR zeroV) (by kernel_rfl) ms d
  cases h : MP.get ms d <;> rw [h] at this <;> exact this
theorem get_of_mem {K V : Type} [DecidableEq K] : ∀ {ms : List (K × V × Nat)}, (ms.map (·.1)).Nodup → ∀ {x : K × V × Nat}, x ∈ ms → MP.get ms x.1 = some x.2.1
  | [], _, _, hx => by simp at hx
  | y :: ms, hn, x, hx => by
    simp only [List.map_cons, List.nodup_cons] at hn
    rw [get_cons]
    rcases List.mem_cons.1 hx with rfl | hx
    · simp
    · rw [if_neg (fun e : x.1 = y.1 => hn.1 (e ▸ List.mem_map.2 ⟨x, hx, rfl⟩))]
      exact get_of_mem hn.2 hx
theorem mem_of_get {K V : Type} [DecidableEq K] : ∀ {ms : List (K × V × Nat)} {k : K} {v : V}, MP.get ms k = some v → ∃ x ∈ ms, x.1 = k ∧ x.2.1 = v
  | [], _, _, h => by simp [get_nil] at h
  | y :: ms, k, v, h => by
    rw [get_cons] at h
    split at h
    · rename_i e; cases h; exact ⟨y, by simp, e.symm, rfl⟩
    · obtain ⟨x, h1, h2⟩ := mem_of_get h
      exact ⟨x, by simp [h1], h2⟩
theorem Tab.is {h : Nat → Option Obj} {ms : RM} {c : Nat} {T : Int × Int → AR} {B : Int} (ht : Tab h ms c T B) {x : (Int × Int) × RecV × Nat} (hx : x ∈ ms) : RIs h x.2.1 (T x.1) := by
  rcases ht.get x.1 with ⟨r, h1, h2⟩ | ⟨h1, _⟩
  · rw [get_of_mem ht.nd hx] at h1; cases h1; exact h2
  · rw [get_of_mem ht.nd hx] at h1; cases h1
theorem Tab.dot {h : Nat → Option Obj} {ms : RM} {c : Nat} {T : Int × Int → AR} {B : Int} (ht : Tab h ms c T B) {d : Int × Int} (hd : (T d).st ≠ 0) : ∃ x ∈ ms, x.1 = d := by
  rcases ht.get d with ⟨r, h1, h2⟩ | ⟨_, h1⟩
  · obtain ⟨x, h3, h4, _⟩ := mem_of_get h1
    exact ⟨x, h3, h4⟩
  · rw [h1] at hd; exact absurd rfl hd
theorem Tab.at {h : Nat → Option Obj} {ms : RM} {c : Nat} {T : Int × Int → AR} {B : Int} (ht : Tab h ms c T B) (d : Int × Int) : RIs h ((MP.get ms d).getD zeroV) (T d) := by
  rcases ht.get d with ⟨r, h1, h2⟩ | ⟨h1, h2⟩
  · rw [h1]; exact h2
  · rw [h1, h2]; exact RIs.zero h

/-- What an instance would hang on. -/
structure IsWould (T : Int × Int → AR) (d : Int × Int) (seq : Int) (deps : Nat → Int) : Prop where
  lo : 0 ≤ seq
  ge : ∀ o, o ≠ d → (T o).st ≠ 0 → (T o).seq + 1 ≤ seq ∧ o.2 ≤ deps o.1.toNat
  is : seq = 0 ∨ ∃ o, o ≠ d ∧ (T o).st ≠ 0 ∧ seq = (T o).seq + 1
  dep : ∀ i, i < 7 → deps i = 0 ∨ ∃ o, o ≠ d ∧ (T o).st ≠ 0 ∧ o.1 = (i : Int) ∧ deps i = o.2
structure WX where
  seen : List Nat
  pre : RM
  seq : Int
  deps : Nat → Int
/-- .. out of those that were met. -/
structure PreW (pre : RM) (d : Int × Int) (B : Int) (seq : Int) (deps : Nat → Int) : Prop where
  lo : 0 ≤ seq ∧ seq ≤ B + 1
  dlo : ∀ i, 0 ≤ deps i
  ge : ∀ x ∈ pre, x.1 ≠ d → x.2.1.st ≠ 0 → x.2.1.seq + 1 ≤ seq ∧ x.1.2 ≤ deps x.1.1.toNat
  is : seq = 0 ∨ ∃ x ∈ pre, x.1 ≠ d ∧ x.2.1.st ≠ 0 ∧ seq = x.2.1.seq + 1
  dep : ∀ i, i < 7 → deps i = 0 ∨ ∃ x ∈ pre, x.1 ≠ d ∧ x.2.1.st ≠ 0 ∧ x.1.1 = (i : Int) ∧ deps i = x.1.2
theorem PreW.skip {pre : RM} {d : Int × Int} {B seq : Int} {deps : Nat → Int} (h : PreW pre d B seq deps) {x : (Int × Int) × RecV × Nat} (hx : x.1 = d ∨ x.2.1.st = 0) : PreW (pre ++ [x]) d B seq deps where
  lo := h.lo
  dlo := h.dlo
  ge := fun y hy h1 h2 => by
    rcases List.mem_append.1 hy with hy | hy
    · exact h.ge y hy h1 h2
    · simp at hy; subst hy
      rcases hx with hx | hx
      · exact absurd hx h1
      · exact absurd hx h2
  is := by
    rcases h.is with h1 | ⟨y, h1, h2⟩
    · exact .inl h1
    · exact .inr ⟨y, by simp [h1], h2⟩
  dep := fun i hi => by
    rcases h.dep i hi with h1 | ⟨y, h1, h2⟩
    · exact .inl h1
    · exact .inr ⟨y, by simp [h1], h2⟩
theorem PreW.more {pre : RM} {d : Int × Int} {B seq : Int} {deps : Nat → Int} (h : PreW pre d B seq deps) {x : (Int × Int) × RecV × Nat} (h1 : x.1 ≠ d) (h2 : x.2.1.st ≠ 0) (h3 : 0 ≤ x.2.1.seq ∧ x.2.1.seq ≤ B) (h4 : dotB x.1 = true) :
    PreW (pre ++ [x]) d B (if x.2.1.seq + 1 > seq then x.2.1.seq + 1 else seq) (upv deps x.1.1.toNat (if x.1.2 > deps x.1.1.toNat then x.1.2 else deps x.1.1.toNat)) := by
  have hlo := h.lo
  have hd4 : (0 ≤ x.1.1 ∧ x.1.1 < 7) ∧ 1 ≤ x.1.2 := by
    simp only [dotB, Bool.and_eq_true, isRep_iff, decide_eq_true_eq] at h4
    exact ⟨h4.1, h4.2.1⟩
  refine ⟨?_, ?_, ?_, ?_, ?_⟩
  · split <;> omega
  · intro i
    have := h.dlo i
    have := h.dlo x.1.1.toNat
    simp only [upv]
    repeat' split
    all_goals omega
  · intro y hy e1 e2
    rcases List.mem_append.1 hy with hy | hy
    · obtain ⟨g1, g2⟩ := h.ge y hy e1 e2
      refine ⟨by split <;> omega, ?_⟩
      simp only [upv]
      by_cases hq : y.1.1.toNat = x.1.1.toNat
      · rw [if_pos hq]; rw [hq] at g2; split <;> omega
      · rw [if_neg hq]; exact g2
    · simp at hy; subst hy
      refine ⟨by split <;> omega, ?_⟩
      simp only [upv, if_true]
      split <;> omega
  · split
    · exact .inr ⟨x, by simp, h1, h2, rfl⟩
    · rcases h.is with e1 | ⟨y, e1, e2⟩
      · exact .inl e1
      · exact .inr ⟨y, by simp [e1], e2⟩
  · intro i hi
    have old : deps i = 0 ∨ ∃ y ∈ pre ++ [x], y.1 ≠ d ∧ y.2.1.st ≠ 0 ∧ y.1.1 = (i : Int) ∧ deps i = y.1.2 := by
      rcases h.dep i hi with e1 | ⟨y, e1, e2⟩
      · exact .inl e1
      · exact .inr ⟨y, by simp [e1], e2⟩
    simp only [upv]
    by_cases hq : i = x.1.1.toNat
    · subst hq
      rw [if_pos rfl]
      split
      · have hx1 : x.1.1 = ((x.1.1.toNat : Nat) : Int) := (Int.toNat_of_nonneg hd4.1.1).symm
        exact .inr ⟨x, by simp, h1, h2, hx1, rfl⟩
      · exact old
    · rw [if_neg hq]; exact old
end Go.Proofs

namespace Go.Proofs
open Go Go.V
set_option maxRecDepth 100000
set_option linter.unusedVariables false

theorem s_Would (h : Nat → Option Obj) (ms : RM) (c : Nat) (T : Int × Int → AR) (B : Int) (ht : Tab h ms c T B) (hB : B ≤ 4611686018427387904) (d : Int × Int) :
    Ctr Try.prog F_inst_Table_Would [.ptr 0 0, .agg (dcells d.1 d.2)] [tbl 1, rmap ms c] (fun x H => ∃ seq deps, x = .tup [iv seq, .agg (vcells deps)] ∧ H = [tbl 1, rmap ms c] ∧ IsWould T d seq deps ∧ seq ≤ B + 1) := by
  refine i_inst_Table_Would.spec follows ?_
  classical
  have hB0 : (0 : Int) ≤ B + 1 := by have := ht.seq d; omega
  refine VLoop.mk WX (fun x => [(0, .ptr 0 0), (3, .ptr 2 0), (4, iv 0), (5, .ptr 3 0), (6, iv x.seq), (7, .ptr 4 0), (15, .ptr 5 0)])
    (fun x => [tbl 1, rmap ms c, .cells (dcells d.1 d.2) 24, .cells (vcells fun _ => 0) 33, .cells (vcells x.deps) 33, .iter (some 1) c x.seen c])
    (fun x => Been ms x.pre x.seen ∧ PreW x.pre d B x.seq x.deps) (fun x => ms.length - x.pre.length) ⟨[], [], 0, fun _ => 0⟩ [0, 1, 2, 3, 4, 5]
    ⟨⟨Been.nil _, ⟨⟨Int.le_refl 0, hB0⟩, fun _ => Int.le_refl 0, by simp, .inl rfl, fun _ _ => .inl rfl⟩⟩, rfl, rfl, rfl⟩ ?_
  rintro ⟨seen, pre, seq, deps⟩ ⟨h1, h2⟩ g
  simp only at h1 h2
  refine And.intro ⟨?_, Nat.le_refl _⟩ (And.intro (fun hall => ?_) (fun e he hns => ?_))
  · intro e he
    obtain ⟨x, hx, rfl⟩ := List.mem_map.1 he
    exact ht.ok.1 x hx
  · refine VRet.mk [0, 1] (.tup [iv seq, .agg (vcells deps)]) [tbl 1, rmap ms c] ⟨rfl, rfl, rfl⟩ ⟨seq, deps, rfl, rfl, ?_, h2.lo.2⟩
    have hsub : ∀ x, x ∈ ms → x ∈ pre := fun x hx => h1.all ht.ok.2 hx (hall _ (List.mem_map.2 ⟨x, hx, rfl⟩))
    refine ⟨h2.lo.1, fun o ho hs => ?_, ?_, fun i hi => ?_⟩
    · obtain ⟨x, hx, rfl⟩ := ht.dot hs
      have hr := ht.is hx
      have := h2.ge x (hsub x hx) ho (by rw [hr.st]; exact hs)
      rw [hr.seq] at this
      exact this
    · rcases h2.is with e1 | ⟨x, hx, e1, e2, e3⟩
      · exact .inl e1
      · have hr := ht.is (h1.sub x hx)
        exact .inr ⟨x.1, e1, by rw [← hr.st]; exact e2, by rw [← hr.seq]; exact e3⟩
    · rcases h2.dep i hi with e1 | ⟨x, hx, e1, e2, e3, e4⟩
      · exact .inl e1
      · have hr := ht.is (h1.sub x hx)
        exact .inr ⟨x.1, e1, by rw [← hr.st]; exact e2, e3, e4⟩
  · obtain ⟨x, hx, rfl⟩ := List.mem_map.1 he
    have hns : x.2.2 ∉ seen := hns
    have hr := ht.is hx
    have hsq := ht.seq x.1
    rw [← hr.seq] at hsq
    have hdx := ht.key x hx
    have hd4 : 0 ≤ x.1.1 ∧ x.1.1 < 7 := by
      simp only [dotB, Bool.and_eq_true, isRep_iff] at hdx
      exact hdx.1
    obtain ⟨ca, cc, hcmd⟩ := hr.cmd.shape
    obtain ⟨k, ⟨rst, rcmd, rseq, rdeps, rb, ra⟩, bn⟩ := x
    simp only at hcmd hr hsq hdx hd4 hns
    subst hcmd
    refine Exists.intro bn (Exists.intro (ent encD encR (k, ⟨rst, .slice ca (T k).cmd.length cc, rseq, rdeps, rb, ra⟩, bn)) (And.intro (last_snoc _ _) (And.intro (find_ents ht.ok.2 hx) (And.intro rfl ?_))))
    refine And.intro (fun h => ?_) (fun h => ?_)
    · have hne : k ≠ d := by
        rintro rfl
        simp at h
      refine And.intro (fun h3 => ?_) (fun h3 => ?_)
      · have h3 := of_decide_eq_true h3
        exact Exists.intro ⟨seen ++ [bn], pre ++ [(k, ⟨rst, .slice ca (T k).cmd.length cc, rseq, rdeps, rb, ra⟩, bn)], seq, deps⟩ (Exists.intro [0, 1, 2, 3, 4, 5] (And.intro ⟨⟨h1.more hx hns, h2.skip (.inr h3)⟩, h1.len hx hns⟩ ⟨rfl, rfl, rfl⟩))
      · have h3 := of_decide_eq_false h3
        have hw : IntKind.i64.wrap (rseq + 1) = rseq + 1 := wrap64 (by omega)
        refine Exists.intro _ (And.intro hw ?_)
        refine And.intro hd4 (Exists.intro _ (And.intro (vcells_get' deps hd4 []) ?_))
        refine And.intro hd4 (Exists.intro _ (And.intro (vcells_put deps (if k.2 > deps k.1.toNat then k.2 else deps k.1.toNat) hd4 []) ?_))
        exact Exists.intro ⟨seen ++ [bn], pre ++ [(k, ⟨rst, .slice ca (T k).cmd.length cc, rseq, rdeps, rb, ra⟩, bn)], _, _⟩ (Exists.intro [0, 1, 2, 3, 4, 5] (And.intro ⟨⟨h1.more hx hns, h2.more hne h3 hsq hdx⟩, h1.len hx hns⟩ ⟨rfl, rfl, rfl⟩))
    · have heq : k = d := by
        have : (decide (k.1 = d.1) && decide (k.2 = d.2)) = true := h
        simp only [Bool.and_eq_true, decide_eq_true_eq] at this
        exact Prod.ext this.1 this.2
      exact Exists.intro ⟨seen ++ [bn], pre ++ [(k, ⟨rst, .slice ca (T k).cmd.length cc, rseq, rdeps, rb, ra⟩, bn)], seq, deps⟩ (Exists.intro [0, 1, 2, 3, 4, 5] (And.intro ⟨⟨h1.more hx hns, h2.skip (.inl heq)⟩, h1.len hx hns⟩ ⟨rfl, rfl, rfl⟩))
end Go.Proofs

namespace Go.Proofs
open Go Go.V
set_option maxRecDepth 100000
set_option linter.unusedVariables false

structure MA where
  kind : Int
  dot : Int × Int
  b : Int × Int
  cmd : List Int
  seq : Int
  deps : Nat → Int
structure MIs (h : Nat → Option Obj) (m : MsgV) (M : MA) : Prop where
  kind : m.kind = M.kind
  dot : m.dot = M.dot
  b : m.b = M.b
  cmd : ByIs h m.cmd M.cmd
  seq : m.seq = M.seq
  deps : m.deps = M.deps
def oldA (M : MA) (R : AR) : Option Bool :=
  bif decide (R.st = 3) then some (decide (M.kind = 3)) else bif decide (M.kind = 3) then none else
  bif decide (cmpD M.b R.b < 0) || (decide (M.kind = 1) && decide (R.st = 2)) then some false else
  bif decide (M.kind = 1) && (decide (R.st = 1) && (decide (R.a.1 = M.b.1) && decide (R.a.2 = M.b.2))) then some true else none
abbrev zans : List SV := [bv false, iv 0, iv 0, iv 0, .raw (.slice none 0 0), iv 0, iv 0, iv 0, iv 0, iv 0, iv 0, iv 0, iv 0, iv 0, iv 0, iv 0, iv 0]
abbrev acells (ok : Bool) (b : Int × Int) (r : RecV) : List SV := bv ok :: iv b.1 :: iv b.2 :: rcells r
def OldPost (h : Nat → Option Obj) (ms : RM) (c : Nat) (M : MA) (r : RecV) (R : AR) (x : SV) (H : List SO) : Prop :=
  (oldA M R = none ∧ x = .tup [.agg zans, bv false] ∧ H = [tbl 1, rmap ms c, .heap h]) ∨
  ∃ ok v h', oldA M R = some ok ∧ x = .tup [.agg (acells ok r.b { r with cmd := v }), bv true] ∧ H = [tbl 1, rmap ms c, .heap h'] ∧ Sub h h' ∧ ByIs h' v R.cmd

theorem s_old (h : Nat → Option Obj) (ms : RM) (c : Nat) (m : MsgV) (M : MA) (r : RecV) (R : AR) (hm : MIs h m M) (hr : RIs h r R) (hl : R.cmd.length ≤ 10000000) :
    Ctr Try.prog F_inst_Table_old [.ptr 0 0, .agg (mcells m), .agg (rcells r)] [tbl 1, rmap ms c, .heap h] (OldPost h ms c M r R) := by
  obtain ⟨ma, mc, hmc⟩ := hm.cmd.shape
  obtain ⟨ra, rc, hrc⟩ := hr.cmd.shape
  obtain ⟨mk, md, mb, mcmd, mseq, mdeps⟩ := m
  obtain ⟨rst, rcmd, rseq, rdeps, rb, raa⟩ := r
  obtain ⟨e1, e2, e3, e4, e5, e6⟩ := hm
  obtain ⟨f1, f2, f3, f4, f5, f6⟩ := hr
  simp only at e1 e2 e3 e4 e5 e6 f1 f2 f3 f4 f5 f6 hmc hrc
  subst hmc hrc
  refine i_inst_Table_old.spec follows ?_
  have hcop := s_inst_copied h ⟨rst, .slice ra R.cmd.length rc, rseq, rdeps, rb, raa⟩ R.cmd f2 hl
  have fin : ∀ (ok : Bool) (v : Value) (h' : Nat → Option Obj) (b1 b2 : SO), oldA M R = some ok → Sub h h' → ByIs h' v R.cmd → ∀ b3 : SO, b3 = .cells (acells ok rb ⟨rst, v, rseq, rdeps, rb, raa⟩) 39 →
      VRet 3 (.tup [.agg (acells ok rb ⟨rst, v, rseq, rdeps, rb, raa⟩), bv true]) [tbl 1, rmap ms c, .heap h', b1, b2, b3] (OldPost h ms c M ⟨rst, .slice ra R.cmd.length rc, rseq, rdeps, rb, raa⟩ R) := by
    intro ok v h' b1 b2 ho hs hb b3 e3
    obtain ⟨va, vc, rfl⟩ := hb.shape
    exact VRet.mk [0, 1, 2] _ [tbl 1, rmap ms c, .heap h'] ⟨rfl, rfl, rfl⟩ (.inr ⟨ok, _, h', ho, rfl, rfl, hs, hb⟩)
  refine And.intro (fun h1 => ?_) (fun h1 => ?_)
  · refine VCall.mk [2] hcop ⟨rfl, rfl, rfl⟩ ?_
    rintro _ _ ⟨v, h', rfl, rfl, hs, hb⟩
    obtain ⟨va, vc, rfl⟩ := hb.shape
    refine And.intro rfl (And.intro rfl ?_)
    refine fin _ _ h' _ _ ?_ hs hb _ rfl
    have h1 := of_decide_eq_true h1
    have hk : R.st = 3 := by rw [← f1]; exact h1
    have e1 : mk = M.kind := e1
    simp [oldA, hk, e1]
  have h1 := of_decide_eq_false h1
  have hk : R.st ≠ 3 := by rw [← f1]; exact h1
  have none : oldA M R = none → VRet 3 (.tup [.agg zans, bv false]) [tbl 1, rmap ms c, .heap h, .cells (mcells ⟨mk, md, mb, .slice ma M.cmd.length mc, mseq, mdeps⟩) 35, .cells (rcells ⟨rst, .slice ra R.cmd.length rc, rseq, rdeps, rb, raa⟩) 37, .cells zans 39]
      (OldPost h ms c M ⟨rst, .slice ra R.cmd.length rc, rseq, rdeps, rb, raa⟩ R) := by
    intro ho
    exact VRet.mk [0, 1, 2] _ [tbl 1, rmap ms c, .heap h] ⟨rfl, rfl, rfl⟩ (.inl ⟨ho, rfl, rfl⟩)
  refine And.intro (fun h2 => ?_) (fun h2 => ?_)
  · have h2 : mk = 3 := of_decide_eq_true h2
    exact none (by simp [oldA, hk, ← e1, h2])
  have h2 : mk ≠ 3 := of_decide_eq_false h2
  refine VCall.mk [] (s_ballot_Cmp mb rb) ⟨rfl, rfl, rfl⟩ ?_
  rintro _ _ ⟨rfl, rfl⟩
  refine And.intro (fun h3 => ?_) (fun h3 => ?_)
  · have h3 := of_decide_eq_true h3
    have ho : oldA M R = some false := by
      have : cmpD M.b R.b < 0 := by rw [← e3, ← f5]; exact h3
      simp [oldA, hk, ← e1, h2, this]
    refine And.intro (fun _ => ?_) (fun h => absurd h3 (of_decide_eq_false h))
    refine VCall.mk [2] hcop ⟨rfl, rfl, rfl⟩ ?_
    rintro _ _ ⟨v, h', rfl, rfl, hs, hb⟩
    obtain ⟨va, vc, rfl⟩ := hb.shape
    refine And.intro rfl ?_
    exact fin false _ h' _ _ ho hs hb _ rfl
  have h3 := of_decide_eq_false h3
  have h3' : ¬ cmpD M.b R.b < 0 := by rw [← e3, ← f5]; exact h3
  refine And.intro (fun h4 => ?_) (fun h4 => ?_)
  · have h4 : mk = 1 := of_decide_eq_true h4
    refine And.intro (fun h5 => ?_) (fun h5 => ?_)
    · have h5 : rst = 2 := of_decide_eq_true h5
      have ho : oldA M R = some false := by simp [oldA, ← f1, ← e1, h4, h5]
      refine VCall.mk [2] hcop ⟨rfl, rfl, rfl⟩ ?_
      rintro _ _ ⟨v, h', rfl, rfl, hs, hb⟩
      obtain ⟨va, vc, rfl⟩ := hb.shape
      refine And.intro rfl ?_
      exact fin false _ h' _ _ ho hs hb _ rfl
    · have h5 : rst ≠ 2 := of_decide_eq_false h5
      have hk' : rst ≠ 3 := by rw [f1]; exact hk
      refine And.intro (fun h6 => ?_) (fun h6 => ?_)
      · have h6 : mk = 1 := of_decide_eq_true h6
        refine And.intro (fun h7 => ?_) (fun h7 => ?_)
        · have h7 : rst = 1 := of_decide_eq_true h7
          refine And.intro (fun h8 => ?_) (fun h8 => ?_)
          · have h8 : (decide (raa.1 = mb.1) && decide (raa.2 = mb.2)) = true := h8
            have ho : oldA M R = some true := by
              rw [f6, e3] at h8
              simp only [oldA, ← f1, ← e1, h6, h7, h3']
              simp only [h8]; rfl
            refine VCall.mk [2] hcop ⟨rfl, rfl, rfl⟩ ?_
            rintro _ _ ⟨v, h', rfl, rfl, hs, hb⟩
            obtain ⟨va, vc, rfl⟩ := hb.shape
            refine And.intro rfl ?_
            exact fin true _ h' _ _ ho hs hb _ rfl
          · have h8 : (decide (raa.1 = mb.1) && decide (raa.2 = mb.2)) = false := h8
            refine none ?_
            rw [f6, e3] at h8
            simp only [oldA, ← f1, ← e1, h6, h7, h3']
            simp only [h8]; rfl
        · have h7 : rst ≠ 1 := of_decide_eq_false h7
          exact none (by simp [oldA, ← f1, ← e1, h6, h7, h3', h5, hk'])
      · have h6 : mk ≠ 1 := of_decide_eq_false h6
        exact absurd h4 h6
  · have h4 : mk ≠ 1 := of_decide_eq_false h4
    have hk' : rst ≠ 3 := by rw [f1]; exact hk
    refine And.intro (fun h6 => ?_) (fun h6 => ?_)
    · exact absurd (of_decide_eq_true h6) h4
    · exact none (by simp [oldA, ← f1, ← e1, h4, h2, h3', hk'])
end Go.Proofs

