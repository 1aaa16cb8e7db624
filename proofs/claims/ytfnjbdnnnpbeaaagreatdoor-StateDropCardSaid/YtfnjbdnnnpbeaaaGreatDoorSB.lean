/- Part of the proof that the statement named in the last file holds: lemmas of the prover's own. No conditions. -/
import Derived.Test.YtfnjbdnnnpbeaaaGreatDoorSA
import Derived.Test.YtfnjbdnnnpbeaaaGreatDoorVD
import Derived.Laws.RangeAny
import Derived.Lib.RuneCount
import Derived.Shelf.SlSortCmp.NoneTotal
namespace Go.Proofs
open Go Go.V Go.Lib
set_option maxRecDepth 100000
set_option linter.unusedVariables false
/-- A shadow. -/
structure SH where
  rep : Int
  n : Int
  seen : Nat → Int
  kind : Int
  key : ByteArray
  text : ByteArray
  by' : Int
  time : Int
abbrev shcells (s : SH) : List SV := [iv s.rep, iv s.n, iv (s.seen 0), iv (s.seen 1), iv (s.seen 2), iv (s.seen 3), iv (s.seen 4), iv (s.seen 5), iv (s.seen 6), iv s.kind, .raw (.string s.key), .raw (.string s.text), iv s.by', iv s.time]
def zeroS : SH := ⟨0, 0, fun _ => 0, 0, ByteArray.mk #[], ByteArray.mk #[], 0, 0⟩
def readyB (s : SH) (v : Nat → Int) : Bool := !has v s.rep s.n && leB s.seen v
theorem s_shadow_Ready (s : SH) (v : Nat → Int) : Ctr Tryz.prog F_shadow_Ready [.agg (shcells s), .agg (vcells v)] [] (fun x H => x = bv (readyB s v) ∧ H = []) := by
  refine i_shadow_Ready.spec follows ?_
  refine VCall.mk [] (s_vec_Has v s.rep s.n) ⟨rfl, rfl, rfl⟩ ?_
  rintro _ _ ⟨rfl, rfl⟩
  refine And.intro (fun h => ?_) (fun h => ?_)
  · refine VCall.mk [] (s_vec_Le s.seen v) ⟨rfl, rfl, rfl⟩ ?_
    rintro _ _ ⟨rfl, rfl⟩
    refine VRet.mk [] (bv _) [] ⟨rfl, rfl, rfl⟩ ⟨?_, rfl⟩
    have h : has v s.rep s.n = false := by simpa using h
    show bv _ = bv _
    rw [readyB, h]; rfl
  · refine VRet.mk [] (bv _) [] ⟨rfl, rfl, rfl⟩ ⟨?_, rfl⟩
    have h : has v s.rep s.n = true := by simpa using h
    show bv _ = bv _
    rw [readyB, h]; rfl

abbrev Uni (h : Nat → Option Obj) : Prop := UniH Tryz.prog (Tryz.laysLetter_ren.g 8) (Tryz.laysDigit_ren.g 5) h
theorem s_IsLetter (h : Nat → Option Obj) (hu : Uni h) (r : Int) (hr : -2147483648 ≤ r ∧ r ≤ 2147483647) :
    Ctr Tryz.prog F_unicode_IsLetter [.raw (.int .i32 r)] [.heap h] (fun x H => x = bv (isLetterU r) ∧ H = [.heap h]) :=
  letter_ctr rfl Tryz.laysLetter (by kernel_rfl) hu r hr
theorem s_IsDigit (h : Nat → Option Obj) (hu : Uni h) (r : Int) (hr : -2147483648 ≤ r ∧ r ≤ 2147483647) :
    Ctr Tryz.prog F_unicode_IsDigit [.raw (.int .i32 r)] [.heap h] (fun x H => x = bv (isDigitU r) ∧ H = [.heap h]) :=
  digit_ctr rfl Tryz.laysDigit hu r hr
def otherB (r : Int) (first : Bool) : Bool := isLetterU r || (!first && (isDigitU r || decide (r = 45)))
theorem s_name_other (h : Nat → Option Obj) (hu : Uni h) (r : Int) (hr : -2147483648 ≤ r ∧ r ≤ 2147483647) (first : Bool) :
    Ctr Tryz.prog F_name_other [.raw (.int .i32 r), bv first] [.heap h] (fun x H => x = bv (otherB r first) ∧ H = [.heap h]) := by
  have fin : ∀ b : Bool, otherB r first = b → VRet 1 (bv b) [.heap h] (fun x H => x = bv (otherB r first) ∧ H = [.heap h]) := by
    intro b hb
    exact VRet.mk [0] (bv b) [.heap h] ⟨rfl, rfl, rfl⟩ ⟨by rw [hb], rfl⟩
  refine i_name_other.spec follows ?_
  refine VCall.mk [0] (s_IsLetter h hu r hr) ⟨rfl, rfl, rfl⟩ ?_
  rintro _ _ ⟨rfl, rfl⟩
  refine And.intro (fun h1 => ?_) (fun h1 => fin _ (by simp [otherB, h1]))
  refine And.intro (fun h2 => ?_) (fun h2 => fin _ (by simp at h2; simp [otherB, h1, h2]))
  have h2 : first = false := by simpa using h2
  refine VCall.mk [0] (s_IsDigit h hu r hr) ⟨rfl, rfl, rfl⟩ ?_
  rintro _ _ ⟨rfl, rfl⟩
  refine And.intro (fun h3 => ?_) (fun h3 => fin _ (by simp [otherB, h1, h2, h3]))
  refine fin _ ?_
  simp [otherB, h1, h2, h3]
/-- How many runes there are from a place on, if all may stand in a name. -/
def runesFrom (s : ByteArray) : Nat → Nat → Option Nat
  | 0, _ => some 0
  | f + 1, p => if p < s.size then (if otherB ((Utf8.decode s p).1 : Int) (decide ((p : Int) = 0)) then (runesFrom s f (p + (Utf8.decode s p).2)).map (· + 1) else none) else some 0
def goodName (s : ByteArray) : Bool := match runesFrom s (s.size + 1) 0 with
  | some n => decide ((n : Int) ≥ 1) && decide ((n : Int) ≤ 20)
  | none => false
structure NX where
  p : Nat
  n : Nat
theorem runesFrom_step {s : ByteArray} {f p : Nat} (hp : p < s.size) : runesFrom s (f + 1) p = (if otherB ((Utf8.decode s p).1 : Int) (decide ((p : Int) = 0)) then (runesFrom s f (p + (Utf8.decode s p).2)).map (· + 1) else none) := by
  rw [runesFrom, if_pos hp]
theorem s_name_Good (h : Nat → Option Obj) (hu : Uni h) (s : ByteArray) (hs : s.size ≤ 4611686018427387904) :
    Ctr Tryz.prog F_name_Good [.raw (.string s)] [.heap h] (fun x H => x = bv (goodName s) ∧ H = [.heap h]) := by
  refine i_name_Good.spec follows ?_
  refine VLoop.mk NX (fun x => [(3, iv x.n), (7, .ptr 1 0)]) (fun x => [.heap h, .siter s x.p])
    (fun x => x.n ≤ x.p ∧ (x.p < s.size ∨ x.n ≤ s.size) ∧ runesFrom s (s.size + 1) 0 = (runesFrom s (s.size + 1 - x.n) x.p).map (· + x.n)) (fun x => s.size - x.p) ⟨0, 0⟩ [0, 1]
    ⟨⟨Nat.le_refl _, .inr (Nat.zero_le _), by simp⟩, rfl, rfl, rfl⟩ ?_
  rintro ⟨p, n⟩ ⟨hnp, hn, hr⟩ g
  simp only at hnp hn hr
  refine And.intro (fun hp c wd hd => ?_) (fun hp => ?_)
  · simp only at hp hd
    have hc : c ≤ 2147483647 := by have := decide_eq_true (decode_le s p); rw [hd] at this; exact of_decide_eq_true this
    have hw1 : 1 ≤ wd := by have := decode_width_pos s p hp; rw [hd] at this; exact this
    refine VCall.mk [0] (s_name_other h hu (c : Int) (by omega) (decide ((p : Int) = 0))) ⟨rfl, rfl, rfl⟩ ?_
    rintro _ _ ⟨rfl, rfl⟩
    have hf : s.size + 1 - n = (s.size - n) + 1 := by omega
    rw [hf, runesFrom_step hp, hd] at hr
    refine And.intro (fun h1 => ?_) (fun h1 => ?_)
    · have h1 : otherB (c : Int) (decide ((p : Int) = 0)) = false := by simpa using h1
      refine VRet.mk [0] (bv false) [.heap h] ⟨rfl, rfl, rfl⟩ ⟨?_, rfl⟩
      rw [goodName, hr, h1]; rfl
    · have h1 : otherB (c : Int) (decide ((p : Int) = 0)) = true := by simpa using h1
      have hw : IntKind.i64.wrap ((n : Int) + 1) = ((n + 1 : Nat) : Int) := wrap64 (by omega)
      refine Exists.intro _ (And.intro hw ?_)
      refine Exists.intro ⟨p + wd, n + 1⟩ (Exists.intro [0, 1] (And.intro ⟨⟨by simp only; omega, .inr (by simp only; omega), ?_⟩, by simp only; omega⟩ ⟨rfl, rfl, rfl⟩))
      simp only
      rw [hr, h1, show s.size + 1 - (n + 1) = s.size - n by omega]
      simp only [if_true, Option.map_map]
      congr 1
      funext k
      simp only [Function.comp_apply]; omega
  · simp only at hp
    have he : runesFrom s (s.size + 1) 0 = some n := by
      rw [hr]
      have : runesFrom s (s.size + 1 - n) p = some 0 := by
        cases hk : s.size + 1 - n with
        | zero => rfl
        | succ k => rw [runesFrom, if_neg hp]
      rw [this]; simp
    have hg : goodName s = (decide ((n : Int) ≥ 1) && decide ((n : Int) ≤ 20)) := by rw [goodName, he]
    refine And.intro (fun h1 => ?_) (fun h1 => ?_)
    · refine VRet.mk [0] (bv (decide ((n : Int) ≤ 20))) [.heap h] ⟨rfl, rfl, rfl⟩ ⟨?_, rfl⟩
      rw [hg]; have h1 := of_decide_eq_true h1; simp [h1]
    · refine VRet.mk [0] (bv false) [.heap h] ⟨rfl, rfl, rfl⟩ ⟨?_, rfl⟩
      rw [hg]; have h1 := of_decide_eq_false h1; simp [h1]

def kindB (s : SH) : Bool :=
  bif decide (s.kind = 1) || decide (s.kind = 2) then decide (s.by' = 0) && decide (s.time = 0) else
  bif decide (s.kind = 3) then (s.text.toList == (ByteArray.mk #[]).toList) && decide (s.time = 0) else
  bif decide (s.kind = 4) then decide (s.by' = 0) else false
def goodS (s : SH) : Bool := isDot s.rep s.n && (vgoodB s.seen && (decide (s.seen s.rep.toNat = s.n - 1) && (goodName s.key && (!decide ((s.text.size : Int) > 100) && (!(decide (s.by' < -1099511627776) || (decide (s.by' > 1099511627776) || (decide (s.time < 0) || decide (s.time > 1099511627776)))) && kindB s)))))
theorem shcells_seen (s : SH) {n : Int} (h : 0 ≤ n ∧ n < 7) : (shcells s)[0 + 2 + n.toNat * 1]? = some (iv (s.seen n.toNat)) := by
  have h7 : n.toNat < 7 := by omega
  generalize n.toNat = k at h7
  match k, h7 with
  | 0, _ => rfl | 1, _ => rfl | 2, _ => rfl | 3, _ => rfl | 4, _ => rfl | 5, _ => rfl | 6, _ => rfl
theorem s_shadow_Good (h : Nat → Option Obj) (hu : Uni h) (s : SH) (hs : s.key.size ≤ 4611686018427387904) :
    Ctr Tryz.prog F_shadow_Good [.agg (shcells s)] [.heap h] (fun x H => x = bv (goodS s) ∧ H = [.heap h]) := by
  have bad : goodS s = false → (fun (x : SV) (H : List SO) => x = bv (goodS s) ∧ H = [SO.heap h]) (bv false) [.heap h] := fun hb => ⟨by rw [hb], rfl⟩
  have fin : ∀ b : Bool, goodS s = b → (fun (x : SV) (H : List SO) => x = bv (goodS s) ∧ H = [SO.heap h]) (bv b) [.heap h] := fun b hb => ⟨by rw [hb], rfl⟩
  have b1 : (!isDot s.rep s.n) = !false → goodS s = false := fun k => by have k : isDot s.rep s.n = false := by simpa using k
                                                                         simp [goodS, k]
  have b2 : (!vgoodB s.seen) = !false → goodS s = false := fun k => by have k : vgoodB s.seen = false := by simpa using k
                                                                       simp [goodS, k]
  have b4 : (!goodName s.key) = !false → goodS s = false := fun k => by have k : goodName s.key = false := by simpa using k
                                                                        simp [goodS, k]
  refine i_shadow_Good.spec follows ?_
  refine VCall.mk [] (s_vec_Dot s.rep s.n) ⟨rfl, rfl, rfl⟩ ?_
  rintro _ _ ⟨rfl, rfl⟩
  refine And.intro (fun k1 => ?_) (fun k1 => VRet.mk [0] (bv false) [.heap h] ⟨rfl, rfl, rfl⟩ (bad (b1 k1)))
  have k1 : isDot s.rep s.n = true := by simpa using k1
  refine VCall.mk [] (s_vec_Good s.seen) ⟨rfl, rfl, rfl⟩ ?_
  rintro _ _ ⟨rfl, rfl⟩
  refine And.intro (fun k2 => ?_) (fun k2 => VRet.mk [0] (bv false) [.heap h] ⟨rfl, rfl, rfl⟩ (bad (b2 k2)))
  have k2 : vgoodB s.seen = true := by simpa using k2
  have hdot : (0 ≤ s.rep ∧ s.rep < 7) ∧ 1 ≤ s.n ∧ s.n ≤ 1099511627776 := by
    simp only [isDot, isRep, Bool.and_eq_true, decide_eq_true_eq] at k1; omega
  have hw : IntKind.i64.wrap (s.n - 1) = s.n - 1 := wrap64 (by omega)
  have b3 : s.seen s.rep.toNat ≠ s.n - 1 → goodS s = false := fun k => by simp [goodS, k]
  refine And.intro hdot.1 (Exists.intro _ (And.intro (shcells_seen s hdot.1) ?_))
  refine Exists.intro _ (And.intro hw ?_)
  refine And.intro (fun k3 => ?_) (fun k3 => VRet.mk [0] (bv false) [.heap h] ⟨rfl, rfl, rfl⟩ (bad (b3 (by simpa using k3))))
  have k3 : s.seen s.rep.toNat = s.n - 1 := by simpa using k3
  refine VCall.mk [0] (s_name_Good h hu s.key hs) ⟨rfl, rfl, rfl⟩ ?_
  rintro _ _ ⟨rfl, rfl⟩
  refine And.intro (fun k4 => ?_) (fun k4 => VRet.mk [0] (bv false) [.heap h] ⟨rfl, rfl, rfl⟩ (bad (b4 k4)))
  have k4 : goodName s.key = true := by simpa using k4
  have b5 : decide ((s.text.size : Int) > 100) = true → goodS s = false := fun k => by simp only [goodS, k]; simp
  refine And.intro (fun k5 => VRet.mk [0] (bv false) [.heap h] ⟨rfl, rfl, rfl⟩ (bad (b5 k5))) (fun k5 => ?_)
  have k5 : decide ((s.text.size : Int) > 100) = false := k5
  have b6 : ∀ x, (decide (s.by' < -1099511627776) || (decide (s.by' > 1099511627776) || (decide (s.time < 0) || decide (s.time > 1099511627776)))) = x → x = true → goodS s = false := fun x hx k => by
    subst k; simp only [goodS, hx]; simp
  refine And.intro (fun k6 => ?_) (fun k6 => VRet.mk [0] (bv false) [.heap h] ⟨rfl, rfl, rfl⟩ (bad (b6 true (by simp only [k6]; simp) rfl)))
  refine And.intro (fun k7 => ?_) (fun k7 => VRet.mk [0] (bv false) [.heap h] ⟨rfl, rfl, rfl⟩ (bad (b6 true (by simp only [k7]; simp) rfl)))
  refine And.intro (fun k8 => ?_) (fun k8 => VRet.mk [0] (bv false) [.heap h] ⟨rfl, rfl, rfl⟩ (bad (b6 true (by simp only [k8]; simp) rfl)))
  refine And.intro (fun k9 => VRet.mk [0] (bv false) [.heap h] ⟨rfl, rfl, rfl⟩ (bad (b6 true (by simp only [k9]; simp) rfl))) (fun k9 => ?_)
  have hk : goodS s = kindB s := by
    simp only [goodS, k1, k2, k4, k5, decide_eq_true k3]
    rw [show (decide (s.by' < -1099511627776) || (decide (s.by' > 1099511627776) || (decide (s.time < 0) || decide (s.time > 1099511627776)))) = false by
      rw [show decide (s.by' < -1099511627776) = false from k6, show decide (s.by' > 1099511627776) = false from k7, show decide (s.time < 0) = false from k8, show decide (s.time > 1099511627776) = false from k9]; rfl]
    simp
  refine And.intro (fun q1 => ?_) (fun q1 => ?_)
  · refine And.intro (fun _ => ?_) (fun h => absurd (q1.symm.trans h) (by simp))
    refine And.intro (fun q2 => ?_) (fun q2 => ?_) <;>
    · refine VRet.mk [0] (bv _) [.heap h] ⟨rfl, rfl, rfl⟩ (fin _ ?_)
      rw [hk]; simp [kindB, q1, q2]
  refine And.intro (fun q2 => ?_) (fun q2 => ?_)
  · refine And.intro (fun q3 => ?_) (fun q3 => ?_) <;>
    · refine VRet.mk [0] (bv _) [.heap h] ⟨rfl, rfl, rfl⟩ (fin _ ?_)
      rw [hk]; simp [kindB, q1, q2, q3]
  refine And.intro (fun q3 => ?_) (fun q3 => ?_)
  · refine And.intro (fun q4 => ?_) (fun q4 => ?_)
    · refine VRet.mk [0] (bv _) [.heap h] ⟨rfl, rfl, rfl⟩ (fin _ ?_)
      have q4 : (s.text.toList == (ByteArray.mk #[]).toList) = true := q4
      rw [hk, kindB, q1, q2, q3, q4]; rfl
    · refine VRet.mk [0] (bv _) [.heap h] ⟨rfl, rfl, rfl⟩ (fin _ ?_)
      have q4 : (s.text.toList == (ByteArray.mk #[]).toList) = false := q4
      rw [hk, kindB, q1, q2, q3, q4]; rfl
  refine And.intro (fun q4 => ?_) (fun q4 => ?_) <;>
  · refine VRet.mk [0] (bv _) [.heap h] ⟨rfl, rfl, rfl⟩ (fin _ ?_)
    rw [hk]; simp [kindB, q1, q2, q3, q4]
end Go.Proofs

namespace Go.Proofs
open Go Go.V Go.Lib
set_option maxRecDepth 100000
set_option linter.unusedVariables false

/-! ### Values -/
inductive AV where
  | set (ms : MS) (c : Nat) (gs : GM) (c2 : Nat)
  | num (u d : Nat → Int)
  | txt (s : LV)
def AV.blk : AV → List SO
  | .set ms c gs c2 => SO2 ms c gs c2
  | .num u d => TO u d
  | .txt s => LO s
def AV.sym : AV → SV
  | .set .. => .ifc T_value_Set (.agg [.ptr 0 0])
  | .num .. => .ifc T_value_Number (.agg [.ptr 0 0])
  | .txt .. => .ifc T_value_Text (.agg [.ptr 0 0])
def AV.raw (b : Nat) : AV → Value
  | .set .. => .iface T_value_Set (.agg #[.pointer (some ⟨b, 0, none⟩)])
  | .num .. => .iface T_value_Number (.agg #[.pointer (some ⟨b, 0, none⟩)])
  | .txt .. => .iface T_value_Text (.agg #[.pointer (some ⟨b, 0, none⟩)])
def AV.kind : AV → Int
  | .set .. => 1
  | .num .. => 2
  | .txt .. => 3
def AV.bytes : AV → List Int
  | .set ms c gs c2 => setB ms gs
  | .num u d => talB u d
  | .txt s => lstB s
def AV.ok (N : Nat) : AV → Prop
  | .set ms c gs c2 => SI ms c gs c2 N
  | .num u d => TI u d
  | .txt s => LI s
abbrev L0v : LV := ⟨false, ByteArray.mk #[], 0, 0, 0⟩
def newAV (k : Int) : AV := if k = 1 then .set [] 0 [] 0 else if k = 2 then .num vz vz else .txt L0v
abbrev vS : SV := .ifc T_value_Set (.agg [.ptr 0 0])
abbrev vN : SV := .ifc T_value_Number (.agg [.ptr 0 0])
abbrev vT : SV := .ifc T_value_Text (.agg [.ptr 0 0])
theorem s_orset_New : Ctr Tryz.prog F_orset_New [] [] (fun x H => x = .ptr 0 0 ∧ H = SO2 [] 0 [] 0) := by
  refine i_orset_New.spec follows ?_
  exact VRet.mk [2, 0, 1] (.ptr 0 0) (SO2 [] 0 [] 0) ⟨rfl, rfl, rfl⟩ ⟨rfl, rfl⟩
theorem s_tally_New : Ctr Tryz.prog F_tally_New [] [] (fun x H => x = .ptr 0 0 ∧ H = TO vz vz) := by
  refine i_tally_New.spec follows ?_
  exact VRet.mk [0] (.ptr 0 0) (TO vz vz) ⟨rfl, rfl, rfl⟩ ⟨rfl, rfl⟩
theorem s_last_New : Ctr Tryz.prog F_last_New [] [] (fun x H => x = .ptr 0 0 ∧ H = LO L0v) := by
  refine i_last_New.spec follows ?_
  exact VRet.mk [0] (.ptr 0 0) (LO L0v) ⟨rfl, rfl, rfl⟩ ⟨rfl, rfl⟩
/-! ### What lies behind the face -/
abbrev nilP : SV := .raw (.pointer none)
theorem s_AsSet_S (ms : MS) (c : Nat) (gs : GM) (c2 : Nat) : Ctr Tryz.prog F_value_AsSet [vS] (SO2 ms c gs c2) (fun x H => x = .tup [.ptr 0 0, bv true] ∧ H = SO2 ms c gs c2) := by
  refine i_value_AsSet.spec follows ?_
  exact VRet.mk [0, 1, 2] (.tup [.ptr 0 0, bv true]) (SO2 ms c gs c2) ⟨rfl, rfl, rfl⟩ ⟨rfl, rfl⟩
theorem s_AsSet_N (u d : Nat → Int) : Ctr Tryz.prog F_value_AsSet [vN] (TO u d) (fun x H => x = .tup [nilP, bv false] ∧ H = TO u d) := by
  refine i_value_AsSet.spec follows ?_
  exact VRet.mk [0] (.tup [nilP, bv false]) (TO u d) ⟨rfl, rfl, rfl⟩ ⟨rfl, rfl⟩
theorem s_AsSet_T (s : LV) : Ctr Tryz.prog F_value_AsSet [vT] (LO s) (fun x H => x = .tup [nilP, bv false] ∧ H = LO s) := by
  refine i_value_AsSet.spec follows ?_
  exact VRet.mk [0] (.tup [nilP, bv false]) (LO s) ⟨rfl, rfl, rfl⟩ ⟨rfl, rfl⟩
theorem s_AsNumber_N (u d : Nat → Int) : Ctr Tryz.prog F_value_AsNumber [vN] (TO u d) (fun x H => x = .tup [.ptr 0 0, bv true] ∧ H = TO u d) := by
  refine i_value_AsNumber.spec follows ?_
  exact VRet.mk [0] (.tup [.ptr 0 0, bv true]) (TO u d) ⟨rfl, rfl, rfl⟩ ⟨rfl, rfl⟩
theorem s_AsNumber_T (s : LV) : Ctr Tryz.prog F_value_AsNumber [vT] (LO s) (fun x H => x = .tup [nilP, bv false] ∧ H = LO s) := by
  refine i_value_AsNumber.spec follows ?_
  exact VRet.mk [0] (.tup [nilP, bv false]) (LO s) ⟨rfl, rfl, rfl⟩ ⟨rfl, rfl⟩
theorem s_AsText_T (s : LV) : Ctr Tryz.prog F_value_AsText [vT] (LO s) (fun x H => x = .tup [.ptr 0 0, bv true] ∧ H = LO s) := by
  refine i_value_AsText.spec follows ?_
  exact VRet.mk [0] (.tup [.ptr 0 0, bv true]) (LO s) ⟨rfl, rfl, rfl⟩ ⟨rfl, rfl⟩
theorem s_AsSet_0 : Ctr Tryz.prog F_value_AsSet [.raw .nilIface] [] (fun x H => x = .tup [nilP, bv false] ∧ H = []) := by
  refine i_value_AsSet.spec follows ?_
  exact VRet.mk [] (.tup [nilP, bv false]) [] ⟨rfl, rfl, rfl⟩ ⟨rfl, rfl⟩
theorem s_AsNumber_0 : Ctr Tryz.prog F_value_AsNumber [.raw .nilIface] [] (fun x H => x = .tup [nilP, bv false] ∧ H = []) := by
  refine i_value_AsNumber.spec follows ?_
  exact VRet.mk [] (.tup [nilP, bv false]) [] ⟨rfl, rfl, rfl⟩ ⟨rfl, rfl⟩
theorem s_AsText_0 : Ctr Tryz.prog F_value_AsText [.raw .nilIface] [] (fun x H => x = .tup [nilP, bv false] ∧ H = []) := by
  refine i_value_AsText.spec follows ?_
  exact VRet.mk [] (.tup [nilP, bv false]) [] ⟨rfl, rfl, rfl⟩ ⟨rfl, rfl⟩
/-! ### What a value shows -/
theorem extraB : Builder.Extra Tryz.prog Tryz.laysJoin_ren where
  sizeBuilder := by kernel_rfl
  liesBuilder := by kernel_rfl
  t5 := by kernel_rfl
  a5 := fun w => Tryz.isAgg5 w
  z5 := fun w => Tryz.sizeOf5 w
  v5 := fun w => Tryz.zeroValue5 w
  infoByte := by kernel_rfl
  cellsByte := by kernel_rfl
  sizeByte := by kernel_rfl
  neB5 := by decide
def AV.show : AV → ByteArray
  | .set ms c gs c2 => ⟨(join (allT ms gs) [44]).toArray⟩
  | .num u d => ⟨(itoa (sumT u d 7)).toArray⟩
  | .txt s => s.x
theorem join_len : ∀ (l : List (List UInt8)) (sep : List UInt8) (C : Nat), (∀ x, x ∈ l → x.length ≤ C) → (join l sep).length ≤ l.length * (C + sep.length)
  | [], _, _, _ => by simp [join]
  | [x], sep, C, h => by have := h x (by simp); simp [join]; omega
  | x :: y :: l, sep, C, h => by
    have h1 := h x (by simp)
    have h2 := join_len (y :: l) sep C (fun z hz => h z (by simp [hz]))
    have e : join (x :: y :: l) sep = x ++ sep ++ join (y :: l) sep := by simp [join]
    rw [e, List.length_append, List.length_append, List.length_cons, Nat.add_mul]
    omega
abbrev Ten (h : Nat → Option Obj) : Prop := TenH Tryz.prog h
theorem s_Fmt (h : Nat → Option Obj) (ht : Ten h) (n : Int) (hn : -9223372036854775808 ≤ n ∧ n ≤ 9223372036854775807) :
    Ctr Tryz.prog F_strconv_FormatInt [iv n, iv 10] [.heap h] (fun x H => x = .raw (.string ⟨(itoa n).toArray⟩) ∧ H = [.heap h]) := fmt_ctr rfl Tryz.laysFmt ht n hn
theorem s_Show_N (h : Nat → Option Obj) (ht : Ten h) (u d : Nat → Int) (hT : TI u d) : Ctr Tryz.prog F_value_Show [vN] (TO u d ++ [.heap h]) (fun x H => x = .raw (.string (AV.show (.num u d))) ∧ H = TO u d ++ [.heap h]) := by
  have hb := sumT_bd hT 7 (Nat.le_refl _)
  refine i_value_Show.spec follows ?_
  refine VCall.mk [0] (s_AsSet_N u d) ⟨rfl, rfl, rfl⟩ ?_
  rintro _ _ ⟨rfl, rfl⟩
  refine And.intro (fun h => absurd h (by decide)) (fun _ => ?_)
  refine VCall.mk [0] (s_AsNumber_N u d) ⟨rfl, rfl, rfl⟩ ?_
  rintro _ _ ⟨rfl, rfl⟩
  refine And.intro (fun _ => ?_) (fun h => absurd h (by decide))
  refine VCall.mk [0] (s_TValue u d hT) ⟨rfl, rfl, rfl⟩ ?_
  rintro _ _ ⟨rfl, rfl⟩
  refine VCall.mk [1] (s_Fmt h ht (sumT u d 7) (by omega)) ⟨rfl, rfl, rfl⟩ ?_
  rintro _ _ ⟨rfl, rfl⟩
  exact VRet.mk [0, 1] (.raw (.string (AV.show (.num u d)))) (TO u d ++ [.heap h]) ⟨rfl, rfl, rfl⟩ ⟨rfl, rfl⟩
theorem s_Show_0 : Ctr Tryz.prog F_value_Show [.raw .nilIface] [] (fun x H => x = .raw (.string (ByteArray.mk #[])) ∧ H = []) := by
  refine i_value_Show.spec follows ?_
  refine VCall.mk [] s_AsSet_0 ⟨rfl, rfl, rfl⟩ ?_
  rintro _ _ ⟨rfl, rfl⟩
  refine And.intro (fun h => absurd h (by decide)) (fun _ => ?_)
  refine VCall.mk [] s_AsNumber_0 ⟨rfl, rfl, rfl⟩ ?_
  rintro _ _ ⟨rfl, rfl⟩
  refine And.intro (fun h => absurd h (by decide)) (fun _ => ?_)
  refine VCall.mk [] s_AsText_0 ⟨rfl, rfl, rfl⟩ ?_
  rintro _ _ ⟨rfl, rfl⟩
  refine And.intro (fun h => absurd h (by decide)) (fun _ => ?_)
  exact VRet.mk [] (.raw (.string (ByteArray.mk #[]))) [] ⟨rfl, rfl, rfl⟩ ⟨rfl, rfl⟩
end Go.Proofs

namespace Go.Proofs
open Go Go.V Go.Lib
set_option maxRecDepth 100000
set_option linter.unusedVariables false

/-! ### A value takes a shadow -/
def putAV : AV → SH → Int × AV
  | .set ms c gs c2, s => if s.kind = 1 then (addE ms s.rep s.n s.text, .set (addM ms c s.rep s.n s.text) (addC ms c s.rep s.n s.text) gs c2)
      else (remE s.text s.seen, .set ms c (remG gs c2 s.text s.seen) (remC gs c2 s.text s.seen))
  | .num u d, s => (tadE u d s.rep s.by', .num (tadU u d s.rep s.by') (tadD u d s.rep s.by'))
  | .txt l, s => ((wrL l s.text s.time s.rep s.n).1.2, .txt (wrL l s.text s.time s.rep s.n).2)
theorem s_put_S (ms : MS) (c : Nat) (gs : GM) (c2 : Nat) (s : SH) : Ctr Tryz.prog F_state_put [vS, .agg (shcells s)] (SO2 ms c gs c2) (fun v H => v = iv (putAV (.set ms c gs c2) s).1 ∧ H = (putAV (.set ms c gs c2) s).2.blk) := by
  refine i_state_put.spec follows ?_
  refine VCall.mk [0, 1, 2] (s_AsSet_S ms c gs c2) ⟨rfl, rfl, rfl⟩ ?_
  rintro _ _ ⟨rfl, rfl⟩
  refine And.intro (fun _ => ?_) (fun h => absurd h (by decide))
  refine And.intro (fun h1 => ?_) (fun h1 => ?_)
  · have h1 : s.kind = 1 := of_decide_eq_true h1
    refine VCall.mk [0, 1, 2] (s_SAdd ms c gs c2 s.rep s.n s.text) ⟨rfl, rfl, rfl⟩ ?_
    rintro _ _ ⟨rfl, rfl⟩
    refine VRet.mk [0, 1, 2] (iv (addE ms s.rep s.n s.text)) (SO2 (addM ms c s.rep s.n s.text) (addC ms c s.rep s.n s.text) gs c2) ⟨rfl, rfl, rfl⟩ ?_
    simp only [putAV, if_pos h1]; exact ⟨trivial, rfl⟩
  · have h1 : ¬ s.kind = 1 := of_decide_eq_false h1
    refine VCall.mk [0, 1, 2] (s_SRemove ms c gs c2 s.text s.seen) ⟨rfl, rfl, rfl⟩ ?_
    rintro _ _ ⟨rfl, rfl⟩
    refine VRet.mk [0, 1, 2] (iv (remE s.text s.seen)) (SO2 ms c (remG gs c2 s.text s.seen) (remC gs c2 s.text s.seen)) ⟨rfl, rfl, rfl⟩ ?_
    simp only [putAV, if_neg h1]; exact ⟨trivial, rfl⟩
theorem s_put_N (u d : Nat → Int) (hT : TI u d) (s : SH) : Ctr Tryz.prog F_state_put [vN, .agg (shcells s)] (TO u d) (fun v H => v = iv (putAV (.num u d) s).1 ∧ H = (putAV (.num u d) s).2.blk) := by
  refine i_state_put.spec follows ?_
  refine VCall.mk [0] (s_AsSet_N u d) ⟨rfl, rfl, rfl⟩ ?_
  rintro _ _ ⟨rfl, rfl⟩
  refine And.intro (fun h => absurd h (by decide)) (fun _ => ?_)
  refine VCall.mk [0] (s_AsNumber_N u d) ⟨rfl, rfl, rfl⟩ ?_
  rintro _ _ ⟨rfl, rfl⟩
  refine And.intro (fun _ => ?_) (fun h => absurd h (by decide))
  refine VCall.mk [0] (s_TAdd u d hT s.rep s.by') ⟨rfl, rfl, rfl⟩ ?_
  rintro _ _ ⟨rfl, rfl⟩
  exact VRet.mk [0] (iv (tadE u d s.rep s.by')) (TO (tadU u d s.rep s.by') (tadD u d s.rep s.by')) ⟨rfl, rfl, rfl⟩ ⟨rfl, rfl⟩
theorem s_put_T (l : LV) (s : SH) : Ctr Tryz.prog F_state_put [vT, .agg (shcells s)] (LO l) (fun v H => v = iv (putAV (.txt l) s).1 ∧ H = (putAV (.txt l) s).2.blk) := by
  refine i_state_put.spec follows ?_
  refine VCall.mk [0] (s_AsSet_T l) ⟨rfl, rfl, rfl⟩ ?_
  rintro _ _ ⟨rfl, rfl⟩
  refine And.intro (fun h => absurd h (by decide)) (fun _ => ?_)
  refine VCall.mk [0] (s_AsNumber_T l) ⟨rfl, rfl, rfl⟩ ?_
  rintro _ _ ⟨rfl, rfl⟩
  refine And.intro (fun h => absurd h (by decide)) (fun _ => ?_)
  refine VCall.mk [0] (s_AsText_T l) ⟨rfl, rfl, rfl⟩ ?_
  rintro _ _ ⟨rfl, rfl⟩
  refine And.intro (fun _ => ?_) (fun h => absurd h (by decide))
  refine VCall.mk [0] (s_LWrite l s.text s.time s.rep s.n) ⟨rfl, rfl, rfl⟩ ?_
  rintro _ _ ⟨rfl, rfl⟩
  exact VRet.mk [0] (iv (wrL l s.text s.time s.rep s.n).1.2) (LO (wrL l s.text s.time s.rep s.n).2) ⟨rfl, rfl, rfl⟩ ⟨rfl, rfl⟩
theorem putAV_ok {a : AV} {N : Nat} (h : a.ok N) (s : SH) : (putAV a s).2.ok (N + 1) ∧ (putAV a s).2.kind = a.kind := by
  cases a with
  | set ms c gs c2 =>
    simp only [putAV]
    split
    · exact ⟨SI.add h s.rep s.n s.text, rfl⟩
    · exact ⟨SI.rem h s.text s.seen, rfl⟩
  | num u d => exact ⟨TI.add h s.rep s.by', rfl⟩
  | txt l => exact ⟨LI.write h s.text s.time s.rep s.n, rfl⟩
theorem AV.ok_mono {a : AV} {N M : Nat} (h : a.ok N) (hN : N ≤ M) : a.ok M := by
  cases a with
  | set ms c gs c2 => exact ⟨h.m, h.km, Nat.le_trans h.ml hN, h.me, h.g, h.gk, Nat.le_trans h.gl hN⟩
  | num u d => exact h
  | txt l => exact h
/-- What is refused changes nothing. -/
theorem putAV_no {a : AV} {s : SH} (h : (putAV a s).1 ≠ 0) : (putAV a s).2 = a := by
  cases a with
  | set ms c gs c2 =>
    simp only [putAV] at h ⊢
    split at h
    · rename_i hk
      rw [if_pos hk]
      have h : addE ms s.rep s.n s.text ≠ 0 := h
      unfold addM addC; rw [if_neg h, if_neg h]
    · rename_i hk
      rw [if_neg hk]
      have h : remE s.text s.seen ≠ 0 := h
      unfold remG remC; rw [if_neg h, if_neg h]
  | num u d =>
    have h : tadE u d s.rep s.by' ≠ 0 := h
    simp only [putAV]
    unfold tadU tadD; rw [if_neg (fun k => h k.1), if_neg (fun k => h k.1)]
  | txt l =>
    have h : (wrL l s.text s.time s.rep s.n).1.2 ≠ 0 := h
    simp only [putAV]
    unfold wrL at h ⊢
    split
    · rfl
    · rename_i hb
      rw [if_neg hb] at h
      split
      · rfl
      · rename_i h2
        rw [if_neg h2] at h
        split
        · rfl
        · rename_i h3
          rw [if_neg h3] at h
          exact absurd rfl h
/-! ### A value's own bytes -/
theorem s_own_S (ms : MS) (c : Nat) (gs : GM) (c2 N : Nat) (hI : SI ms c gs c2 N) (hN : N ≤ 100) : Ctr Tryz.prog F_state_own [vS] (SO2 ms c gs c2) (fun x H => ∃ o cp ys, x = .sl 3 o (setB ms gs).length cp ∧ H = SO2 ms c gs c2 ++ [.arr ys T_uint8] ∧ Brow ys o cp (setB ms gs)) := by
  refine i_state_own.spec follows ?_
  refine VCall.mk [0, 1, 2] (s_AsSet_S ms c gs c2) ⟨rfl, rfl, rfl⟩ ?_
  rintro _ _ ⟨rfl, rfl⟩
  refine And.intro (fun _ => ?_) (fun h => absurd h (by decide))
  refine VCall.nil T_uint8 [1] [] ⟨rfl, rfl⟩ ?_
  refine VCall.mk [0, 1, 2, 3] (s_SPut ms c gs c2 N hI hN [] [] T_uint8 0 0 brow_nil (Nat.zero_le _)) ⟨rfl, rfl, rfl⟩ ?_
  rintro _ _ ⟨o, cp, ys, rfl, rfl, hb⟩
  exact VRet.mk [0, 1, 2, 4] (.sl 3 o (setB ms gs).length cp) (SO2 ms c gs c2 ++ [.arr ys T_uint8]) ⟨rfl, rfl, rfl⟩ ⟨o, cp, ys, rfl, rfl, hb⟩
theorem s_own_N (u d : Nat → Int) (hT : TI u d) : Ctr Tryz.prog F_state_own [vN] (TO u d) (fun x H => ∃ o cp ys, x = .sl 1 o (talB u d).length cp ∧ H = TO u d ++ [.arr ys T_uint8] ∧ Brow ys o cp (talB u d)) := by
  refine i_state_own.spec follows ?_
  refine VCall.mk [0] (s_AsSet_N u d) ⟨rfl, rfl, rfl⟩ ?_
  rintro _ _ ⟨rfl, rfl⟩
  refine And.intro (fun h => absurd h (by decide)) (fun _ => ?_)
  refine VCall.mk [0] (s_AsNumber_N u d) ⟨rfl, rfl, rfl⟩ ?_
  rintro _ _ ⟨rfl, rfl⟩
  refine And.intro (fun _ => ?_) (fun h => absurd h (by decide))
  refine VCall.nil T_uint8 [1] [] ⟨rfl, rfl⟩ ?_
  refine VCall.mk [0, 1] (s_TPut u d hT [] [] T_uint8 0 0 brow_nil (Nat.zero_le _)) ⟨rfl, rfl, rfl⟩ ?_
  rintro _ _ ⟨o, cp, ys, rfl, rfl, hb⟩
  exact VRet.mk [0, 2] (.sl 1 o (talB u d).length cp) (TO u d ++ [.arr ys T_uint8]) ⟨rfl, rfl, rfl⟩ ⟨o, cp, ys, rfl, rfl, hb⟩
theorem s_own_T (s : LV) (hL : LI s) : Ctr Tryz.prog F_state_own [vT] (LO s) (fun x H => ∃ o cp ys, x = .sl 1 o (lstB s).length cp ∧ H = LO s ++ [.arr ys T_uint8] ∧ Brow ys o cp (lstB s)) := by
  refine i_state_own.spec follows ?_
  refine VCall.mk [0] (s_AsSet_T s) ⟨rfl, rfl, rfl⟩ ?_
  rintro _ _ ⟨rfl, rfl⟩
  refine And.intro (fun h => absurd h (by decide)) (fun _ => ?_)
  refine VCall.mk [0] (s_AsNumber_T s) ⟨rfl, rfl, rfl⟩ ?_
  rintro _ _ ⟨rfl, rfl⟩
  refine And.intro (fun h => absurd h (by decide)) (fun _ => ?_)
  refine VCall.mk [0] (s_AsText_T s) ⟨rfl, rfl, rfl⟩ ?_
  rintro _ _ ⟨rfl, rfl⟩
  refine And.intro (fun _ => ?_) (fun h => absurd h (by decide))
  refine VCall.nil T_uint8 [1] [] ⟨rfl, rfl⟩ ?_
  refine VCall.mk [0, 1] (s_LPut s hL [] [] T_uint8 0 0 brow_nil (Nat.zero_le _)) ⟨rfl, rfl, rfl⟩ ?_
  rintro _ _ ⟨o, cp, ys, rfl, rfl, hb⟩
  exact VRet.mk [0, 2] (.sl 1 o (lstB s).length cp) (LO s ++ [.arr ys T_uint8]) ⟨rfl, rfl, rfl⟩ ⟨o, cp, ys, rfl, rfl, hb⟩
theorem AV.bytes_len {a : AV} {N : Nat} (h : a.ok N) (hN : N ≤ 100) : a.bytes.length ≤ 300010 := by
  cases a with
  | set ms c gs c2 => exact SI.setB_len h hN
  | num u d => have := talB_len h; show (talB u d).length ≤ _; omega
  | txt s => have := lstB_len h; show (lstB s).length ≤ _; omega
/-! ### Values in a heap -/
/-- A value behind addresses. -/
structure ValAt (hs : Nat → Option Obj) (fp : List Nat) (v : Value) (a : AV) : Prop where
  len : fp.length = a.blk.length
  nd : fp.Nodup
  at' : ∃ b, fp[0]? = some b ∧ v = a.raw b
  obj : ∀ (k : Nat) b o, fp[k]? = some b → a.blk[k]? = some o → hs b = objOf (fun i => fp[i]?) o
theorem AV.cm (a : AV) : ∀ o ∈ a.blk, isCM o = true := by
  cases a <;> simp [AV.blk, isCM]
theorem AV.okb (a : AV) : okH a.blk.length a.blk = true := by
  cases a with
  | set ms c gs c2 => rfl
  | num u d => rfl
  | txt s => cases s; rfl
theorem AV.val_sym (a : AV) {fp : List Nat} {b : Nat} (h0 : fp[0]? = some b) (ρ : Rho) (h : ∀ k, k < a.blk.length → ρ k = fp[k]?) : V.val ρ a.sym = a.raw b := by
  have h1 : ρ 0 = some b := by
    rw [h 0 (by cases a <;> simp [AV.blk]), h0]
  cases a <;> simp [AV.sym, AV.raw, V.val, valL, h1]
theorem AV.bel_sym (a : AV) (n : Nat) (hn : a.blk.length ≤ n) : below n a.sym = true := by
  cases a <;> simp [AV.sym, below, belowL, AV.blk] at hn ⊢ <;> omega
theorem s_put (a : AV) (N : Nat) (ha : a.ok N) (s : SH) : Ctr Tryz.prog F_state_put [a.sym, .agg (shcells s)] a.blk (fun v H => v = iv (putAV a s).1 ∧ H = (putAV a s).2.blk) := by
  cases a with
  | set ms c gs c2 => exact s_put_S ms c gs c2 s
  | num u d => exact s_put_N u d ha s
  | txt l => exact s_put_T l s
theorem putAV_len (a : AV) (s : SH) : (putAV a s).2.blk.length = a.blk.length := by
  cases a with
  | set ms c gs c2 => simp only [putAV]; split <;> rfl
  | num u d => rfl
  | txt l => rfl
theorem putAV_raw (a : AV) (s : SH) (b : Nat) : (putAV a s).2.raw b = a.raw b := by
  cases a with
  | set ms c gs c2 => simp only [putAV]; split <;> rfl
  | num u d => rfl
  | txt l => rfl
/-- The heap behind a value that took a shadow. -/
theorem s_putH (hs : Nat → Option Obj) (fp : List Nat) (v : Value) (a : AV) (N : Nat) (ha : a.ok N) (hv : ValAt hs fp v a) (s : SH) :
    Ctr Tryz.prog F_state_put [.raw v, .agg (shcells s)] [.heap hs] (fun r H => r = iv (putAV a s).1 ∧ ∃ hs', H = [.heap hs'] ∧ ValAt hs' fp v (putAV a s).2 ∧ ∀ b, b ∉ fp → hs' b = hs b) := by
  obtain ⟨b, h0, rfl⟩ := hv.at'
  refine ctr_open (G := []) (as' := [a.sym, .agg (shcells s)]) (Ho := a.blk) (Post := fun v H => v = iv (putAV a s).1 ∧ H = (putAV a s).2.blk) (by rw [List.append_nil]; exact s_put a N ha s) fp hs hv.len hv.nd a.cm a.okb (by simp) hv.obj ?_ ?_ ?_
  · intro ρ ρ' h1 _
    simp only [valL]
    rw [a.val_sym h0 ρ h1]
    simp [V.val, valL]
  · intro _
    simp only [belowL, Bool.and_eq_true]
    refine ⟨a.bel_sym _ (by simp), ?_, trivial⟩
    simp [below, belowL]
  · rintro v0 H0 ⟨rfl, rfl⟩
    refine ⟨(putAV a s).2.blk, [], iv (putAV a s).1, by simp, putAV_len a s, AV.cm _, by rw [← putAV_len a s]; exact AV.okb _, by simp, fun _ _ _ _ => by simp [V.val], fun _ => rfl, rfl, _, rfl, ⟨?_, hv.nd, ⟨b, h0, (putAV_raw a s b).symm⟩, ?_⟩, ?_⟩
    · rw [putAV_len]; exact hv.len
    · intro k b' o hb ho
      exact updA_in _ fp _ hs hv.nd k b' o hb ho
    · intro b' hb'
      exact updA_out _ fp _ hs b' hb'
theorem s_own (a : AV) (N : Nat) (ha : a.ok N) (hN : N ≤ 100) : Ctr Tryz.prog F_state_own [a.sym] a.blk (fun x H => ∃ o cp ys, x = .sl a.blk.length o a.bytes.length cp ∧ H = a.blk ++ [.arr ys T_uint8] ∧ Brow ys o cp a.bytes) := by
  cases a with
  | set ms c gs c2 => exact s_own_S ms c gs c2 N ha hN
  | num u d => exact s_own_N u d ha
  | txt l => exact s_own_T l ha
theorem updA_same (ρ : Rho) : ∀ (A : List Nat) (H : List SO) (hs : Nat → Option Obj), (∀ (k : Nat) b o, A[k]? = some b → H[k]? = some o → hs b = objOf ρ o) → updA ρ A H hs = hs
  | [], _, hs, _ => by simp [updA]
  | _ :: _, [], hs, _ => by simp [updA]
  | a :: A, x :: H, hs, h => by
    funext b
    show (if b = a then objOf ρ x else updA ρ A H hs b) = hs b
    split
    · rename_i e; subst e; exact (h 0 b x (by simp) (by simp)).symm
    · rw [updA_same ρ A H hs fun k b o h1 h2 => h (k + 1) b o (by simpa using h1) (by simpa using h2)]
theorem s_ownH (hs : Nat → Option Obj) (fp : List Nat) (v : Value) (a : AV) (N : Nat) (ha : a.ok N) (hN : N ≤ 100) (hv : ValAt hs fp v a) :
    Ctr Tryz.prog F_state_own [.raw v] [.heap hs] (fun x H => ∃ o cp ys, x = .sl 1 o a.bytes.length cp ∧ H = [.heap hs, .arr ys T_uint8] ∧ Brow ys o cp a.bytes) := by
  obtain ⟨b, h0, rfl⟩ := hv.at'
  refine ctr_open (G := []) (as' := [a.sym]) (Ho := a.blk) (Post := fun x H => ∃ o cp ys, x = .sl a.blk.length o a.bytes.length cp ∧ H = a.blk ++ [.arr ys T_uint8] ∧ Brow ys o cp a.bytes) (by rw [List.append_nil]; exact s_own a N ha hN) fp hs hv.len hv.nd a.cm a.okb (by simp) hv.obj ?_ ?_ ?_
  · intro ρ ρ' h1 _
    simp only [valL]
    rw [a.val_sym h0 ρ h1]
    simp [V.val]
  · intro _
    simp only [belowL, Bool.and_eq_true]
    exact ⟨a.bel_sym _ (by simp), trivial⟩
  · rintro v0 H0 ⟨o, cp, ys, rfl, rfl, hb⟩
    refine ⟨a.blk, [.arr ys T_uint8], .sl 1 o a.bytes.length cp, rfl, rfl, AV.cm _, AV.okb _, by simp [plainO], ?_, ?_, o, cp, ys, rfl, ?_, hb⟩
    · intro ρ ρ' _ h2
      have := h2 0
      simp only [Nat.add_zero, Nat.zero_add] at this
      simp [V.val, this]
    · intro _; rfl
    · rw [updA_same _ _ _ _ hv.obj]
end Go.Proofs

namespace Go.Proofs
open Go Go.V Go.Lib
set_option maxRecDepth 100000
set_option linter.unusedVariables false

/-! ### A text's runes -/
def decs (s : ByteArray) : Nat → Nat → List (Nat × Nat × Nat)
  | 0, _ => []
  | f + 1, p => if p < s.size then (p, (Utf8.decode s p).1, (Utf8.decode s p).2) :: decs s f (p + (Utf8.decode s p).2) else []
abbrev rl (s : ByteArray) : List (Nat × Nat × Nat) := decs s (s.size + 1) 0
theorem decs_fuel (s : ByteArray) : ∀ f p, s.size ≤ f + p → decs s f p = decs s (f + 1) p
  | 0, p, h => by rw [decs, decs, if_neg (by omega)]
  | f + 1, p, h => by
    rw [decs, decs]
    by_cases hp : p < s.size
    · rw [if_pos hp, if_pos hp]
      have := decode_width_pos s p hp
      rw [decs_fuel s f (p + (Utf8.decode s p).2) (by omega)]
    · rw [if_neg hp, if_neg hp]
theorem runesFrom_list (s : ByteArray) : ∀ f p (acc : Array Value), (Conv.runesFrom s f p acc).toList = acc.toList ++ (decs s f p).map fun e => Value.int .i32 (e.2.1 : Int)
  | 0, p, acc => by simp [Conv.runesFrom, decs]
  | f + 1, p, acc => by
    rw [Conv.runesFrom, decs]
    by_cases hp : p < s.size
    · rw [if_pos hp, if_pos hp]
      simp only
      rw [runesFrom_list s f]
      simp
    · rw [if_neg hp, if_neg hp]; simp
def rn (s : ByteArray) : List Int := (rl s).map fun e => (e.2.1 : Int)
theorem runeVals_rn (s : ByteArray) : runeVals s = (rn s).map (Value.int .i32) := by
  unfold runeVals rn rl
  rw [runesFrom_list, decs_fuel s s.size 0 (by omega), List.map_map]
  rfl
theorem decs_len (s : ByteArray) : ∀ f p, (decs s f p).length ≤ f
  | 0, p => by simp [decs]
  | f + 1, p => by
    rw [decs]; split
    · have := decs_len s f (p + (Utf8.decode s p).2); simp; omega
    · simp
theorem rn_len (s : ByteArray) : (rn s).length ≤ s.size + 1 := by
  unfold rn; rw [List.length_map]; exact decs_len s _ _
/-! ### Names compared -/
def cmpN : List Int → List Int → Int
  | [], [] => 0
  | [], _ :: _ => -1
  | _ :: _, [] => 1
  | x :: l, y :: m => if y < x then 1 else if x < y then -1 else cmpN l m
theorem cmpN_lt : ∀ (l m : List Int), cmpN l m < 0 ↔ l < m
  | [], [] => by simp [cmpN]
  | [], y :: m => by simp [cmpN]
  | x :: l, [] => by simp [cmpN]
  | x :: l, y :: m => by
    rw [cmpN, List.cons_lt_cons_iff]
    by_cases h1 : y < x
    · rw [if_pos h1]; constructor
      · intro h; omega
      · rintro (h | h) <;> omega
    · rw [if_neg h1]
      by_cases h2 : x < y
      · rw [if_pos h2]; constructor
        · intro _; exact .inl h2
        · intro _; decide
      · rw [if_neg h2, cmpN_lt l m]
        constructor
        · intro h; exact .inr ⟨by omega, h⟩
        · rintro (h | h)
          · omega
          · exact h.2
theorem cmpN_eq : ∀ (l m : List Int), cmpN l m = 0 ↔ l = m
  | [], [] => by simp [cmpN]
  | [], y :: m => by simp [cmpN]
  | x :: l, [] => by simp [cmpN]
  | x :: l, y :: m => by
    rw [cmpN]
    by_cases h1 : y < x
    · rw [if_pos h1]; constructor
      · intro h; omega
      · intro h; injection h with h _; omega
    · rw [if_neg h1]
      by_cases h2 : x < y
      · rw [if_pos h2]; constructor
        · intro h; omega
        · intro h; injection h with h _; omega
      · rw [if_neg h2, cmpN_eq l m]
        have : x = y := by omega
        simp [this]
theorem cmpB_lt : ∀ (l m : List UInt8), compareBytes l m < 0 ↔ l < m
  | [], [] => by simp [compareBytes]
  | [], y :: m => by simp [compareBytes]
  | x :: l, [] => by simp [compareBytes]
  | x :: l, y :: m => by
    rw [compareBytes, List.cons_lt_cons_iff]
    by_cases h1 : x < y
    · rw [if_pos h1]; constructor
      · intro _; exact .inl h1
      · intro _; decide
    · rw [if_neg h1]
      by_cases h2 : y < x
      · rw [if_pos h2]; constructor
        · intro h; omega
        · rintro (h | h)
          · exact absurd h h1
          · rw [h.1] at h2; exact absurd h2 (UInt8.lt_irrefl _)
      · rw [if_neg h2, cmpB_lt l m]
        have : x = y := UInt8.le_antisymm (UInt8.not_lt.1 h2) (UInt8.not_lt.1 h1)
        constructor
        · intro h; exact .inr ⟨this, h⟩
        · rintro (h | h)
          · exact absurd h h1
          · exact h.2
theorem cmpB_eq : ∀ (l m : List UInt8), compareBytes l m = 0 ↔ l = m
  | [], [] => by simp [compareBytes]
  | [], y :: m => by simp [compareBytes]
  | x :: l, [] => by simp [compareBytes]
  | x :: l, y :: m => by
    rw [compareBytes]
    by_cases h1 : x < y
    · rw [if_pos h1]; constructor
      · intro h; omega
      · intro h; injection h with h _; rw [h] at h1; exact absurd h1 (UInt8.lt_irrefl _)
    · rw [if_neg h1]
      by_cases h2 : y < x
      · rw [if_pos h2]; constructor
        · intro h; omega
        · intro h; injection h with h _; rw [h] at h2; exact absurd h2 (UInt8.lt_irrefl _)
      · rw [if_neg h2, cmpB_eq l m]
        have : x = y := UInt8.le_antisymm (UInt8.not_lt.1 h2) (UInt8.not_lt.1 h1)
        simp [this]
def cfK (a b : ByteArray) : Int := orI [cmpN (rn a) (rn b), compareBytes a.data.toList b.data.toList]
theorem cfK_lt {a b : ByteArray} : cfK a b < 0 ↔ rn a < rn b ∨ (rn a = rn b ∧ a.data.toList < b.data.toList) := by
  unfold cfK
  simp only [orI]
  by_cases h : cmpN (rn a) (rn b) = 0
  · have he := (cmpN_eq _ _).1 h
    rw [if_neg (by simpa using h)]
    by_cases h2 : compareBytes a.data.toList b.data.toList = 0
    · rw [if_neg (by simpa using h2)]
      have := (cmpB_eq _ _).1 h2
      rw [he, this]
      constructor
      · intro h; omega
      · rintro (h | ⟨_, h⟩)
        · exact absurd h (List.lt_irrefl _)
        · exact absurd h (List.lt_irrefl _)
    · rw [if_pos (by simpa using h2), cmpB_lt, he]
      constructor
      · intro h; exact .inr ⟨rfl, h⟩
      · rintro (h | ⟨_, h⟩)
        · exact absurd h (List.lt_irrefl _)
        · exact h
  · rw [if_pos (by simpa using h), cmpN_lt]
    constructor
    · intro h; exact .inl h
    · rintro (h1 | ⟨h1, _⟩)
      · exact h1
      · exact absurd ((cmpN_eq _ _).2 h1) h
theorem tri {α : Type} [LT α] [DecidableEq α] [DecidableLT α] [Std.Irrefl (α := α) (· < ·)] [Std.Trichotomous (α := α) (· < ·)] [Std.Asymm (α := α) (· < ·)] (l m : List α) : l < m ∨ l = m ∨ m < l := by
  by_cases h1 : l < m
  · exact .inl h1
  · by_cases h2 : m < l
    · exact .inr (.inr h2)
    · exact .inr (.inl (List.le_antisymm (List.not_lt.1 h2) (List.not_lt.1 h1)))
theorem bytes_ext {a b : ByteArray} (h : a.data.toList = b.data.toList) : a = b := by
  cases a; cases b; simp only at h; rw [Array.toList_inj.1 h]
theorem cfK_tri (a b : ByteArray) : cfK a b < 0 ∨ a = b ∨ cfK b a < 0 := by
  rw [cfK_lt, cfK_lt]
  rcases tri (rn a) (rn b) with h | h | h
  · exact .inl (.inl h)
  · rcases tri a.data.toList b.data.toList with h2 | h2 | h2
    · exact .inl (.inr ⟨h, h2⟩)
    · exact .inr (.inl (bytes_ext h2))
    · exact .inr (.inr (.inr ⟨h.symm, h2⟩))
  · exact .inr (.inr (.inl h))
theorem cfK_irr (a : ByteArray) : ¬ cfK a a < 0 := by
  rw [cfK_lt]
  rintro (h | ⟨_, h⟩) <;> exact absurd h (List.lt_irrefl _)
theorem cfK_trans {a b c : ByteArray} (h1 : cfK a b < 0) (h2 : cfK b c < 0) : cfK a c < 0 := by
  rw [cfK_lt] at *
  rcases h1 with h1 | ⟨h1, h1'⟩ <;> rcases h2 with h2 | ⟨h2, h2'⟩
  · exact .inl (List.lt_trans h1 h2)
  · exact .inl (h2 ▸ h1)
  · exact .inl (h1 ▸ h2)
  · exact .inr ⟨h1.trans h2, List.lt_trans h1' h2'⟩
theorem ltOf_cfK {a b : ByteArray} : ltOf cfK a b = true ↔ cfK a b < 0 := by simp [ltOf]
theorem swo_cfK : Sort.SWO (ltOf cfK) where
  irrefl := fun x => by rw [Bool.eq_false_iff, Ne, ltOf_cfK]; exact cfK_irr x
  trans := fun x y z => by rw [ltOf_cfK, ltOf_cfK, ltOf_cfK]; exact cfK_trans
  ntrans := fun x y z => by
    rw [Bool.eq_false_iff, Bool.eq_false_iff, Bool.eq_false_iff, Ne, Ne, Ne, ltOf_cfK, ltOf_cfK, ltOf_cfK]
    intro h1 h2 h3
    rcases cfK_tri x y with h | h | h
    · exact h1 h
    · subst h; exact h2 h3
    · rcases cfK_tri y z with h' | h' | h'
      · exact h2 h'
      · subst h'; exact h1 h3
      · exact cfK_irr z (cfK_trans (cfK_trans h' h) h3)
end Go.Proofs

namespace Go.Proofs
open Go Go.V Go.Lib
set_option maxRecDepth 100000
set_option linter.unusedVariables false
set_option linter.unusedSectionVars false
section
variable [V.Mode]
/-! ### name.Cmp -/
abbrev icl (n : Int) : List Value := [.int .i32 n]
theorem rn_row (s : ByteArray) (c : Nat) (hc : (runeVals s).length ≤ c) : RowG icl 1 (runeVals s ++ List.replicate (c - (runeVals s).length) (.int .i32 0)) 0 c (rn s) := by
  have e := runeVals_rn s
  have hl : (runeVals s).length = (rn s).length := by rw [e, List.length_map]
  refine ⟨by omega, by simp only [List.length_append, List.length_replicate]; omega, ?_⟩
  have ef : (rn s).flatMap icl = (rn s).map (Value.int .i32) := by
    induction rn s with
    | nil => rfl
    | cons x l ih => rw [List.flatMap_cons, ih]; rfl
  rw [List.drop_zero, Nat.mul_one, ← hl, List.take_left' rfl, ef, e]
theorem cmpN_nil (l : List Int) : cmpN [] l = if 0 < l.length then -1 else 0 := by cases l <;> simp [cmpN]
theorem s_name_Cmp (a b : ByteArray) (ha : a.size ≤ 1000000) (hb : b.size ≤ 1000000) : Ctr Tryz.prog F_name_Cmp [.raw (.string a), .raw (.string b)] [] (fun v H => v = iv (cmpN (rn a) (rn b)) ∧ H = []) := by
  have hla := rn_len a
  have hlb := rn_len b
  have hea : (runeVals a).length = (rn a).length := by rw [runeVals_rn, List.length_map]
  have heb : (runeVals b).length = (rn b).length := by rw [runeVals_rn, List.length_map]
  refine i_name_Cmp.spec follows ?_
  refine fun ca hca => ?_
  refine fun cb hcb => ?_
  have ra := rn_row a ca hca
  have rb := rn_row b cb hcb
  rw [hea, heb]
  rw [hea] at ra
  rw [heb] at rb
  generalize runeVals a ++ List.replicate (ca - (rn a).length) (.int .i32 0) = xs at ra
  generalize runeVals b ++ List.replicate (cb - (rn b).length) (.int .i32 0) = ys at rb
  generalize rn a = la at *
  generalize rn b = lb at *
  have hra : 0 + la.length * 1 ≤ xs.length := by have := ra.1; have := ra.2.1; omega
  have hrb : 0 + lb.length * 1 ≤ ys.length := by have := rb.1; have := rb.2.1; omega
  refine VLoop.mk Nat (fun i => [(5, .sl 0 0 la.length ca), (6, .sl 1 0 lb.length cb), (13, .sl 0 0 la.length ca), (14, iv la.length), (15, iv i)]) (fun _ => [.arr xs T_int32, .arr ys T_int32])
    (fun i => i ≤ la.length ∧ i ≤ lb.length ∧ cmpN la lb = cmpN (la.drop i) (lb.drop i)) (fun i => la.length - i) 0 [0, 1] ⟨⟨Nat.zero_le _, Nat.zero_le _, rfl⟩, rfl, rfl, rfl⟩ ?_
  rintro i ⟨hia, hib, hc⟩ g
  refine And.intro (fun h => ?_) (fun h => ?_)
  · have h : (i : Int) < (la.length : Nat) := of_decide_eq_true h
    have hil : i < la.length := by omega
    have hw : IntKind.i64.wrap ((i : Int) + 1) = ((i + 1 : Nat) : Int) := wrap64 (by omega)
    have gx : xs[0 + (i : Int).toNat * 1]? = some (.int .i32 la[i]) := by
      have := ra.at (fun _ => rfl) hil (j := 0) (by decide); simpa using this
    have hda : la.drop i = la[i] :: la.drop (i + 1) := List.drop_eq_getElem_cons hil
    refine And.intro ⟨Int.natCast_nonneg i, h, hra⟩ (Exists.intro _ (And.intro gx ?_))
    refine And.intro (fun h2 => ?_) (fun h2 => ?_)
    · have h2 : ¬ (lb.length : Int) ≤ (i : Int) := of_decide_eq_false h2
      have hjl : i < lb.length := by omega
      have gy : ys[0 + (i : Int).toNat * 1]? = some (.int .i32 lb[i]) := by
        have := rb.at (fun _ => rfl) hjl (j := 0) (by decide); simpa using this
      have hdb : lb.drop i = lb[i] :: lb.drop (i + 1) := List.drop_eq_getElem_cons hjl
      refine And.intro ⟨Int.natCast_nonneg i, by omega, hrb⟩ (Exists.intro _ (And.intro gy ?_))
      refine And.intro (fun h3 => ?_) (fun h3 => ?_)
      · have h3 : lb[i] < la[i] := of_decide_eq_true h3
        refine VRet.mk [] (iv 1) [] ⟨rfl, rfl, rfl⟩ ⟨?_, rfl⟩
        rw [hc, hda, hdb, cmpN, if_pos h3]
      · have h3 : ¬ lb[i] < la[i] := of_decide_eq_false h3
        refine And.intro ⟨Int.natCast_nonneg i, by omega, hrb⟩ (Exists.intro _ (And.intro gy ?_))
        refine And.intro (fun h4 => ?_) (fun h4 => ?_)
        · have h4 : la[i] < lb[i] := of_decide_eq_true h4
          refine VRet.mk [] (iv (-1)) [] ⟨rfl, rfl, rfl⟩ ⟨?_, rfl⟩
          rw [hc, hda, hdb, cmpN, if_neg h3, if_pos h4]
        · have h4 : ¬ la[i] < lb[i] := of_decide_eq_false h4
          refine Exists.intro _ (And.intro hw ?_)
          refine Exists.intro (i + 1) (Exists.intro [0, 1] (And.intro ⟨⟨hil, hjl, ?_⟩, by omega⟩ ⟨rfl, rfl, rfl⟩))
          rw [hc, hda, hdb, cmpN, if_neg h3, if_neg h4]
    · have h2 : (lb.length : Int) ≤ (i : Int) := of_decide_eq_true h2
      refine VRet.mk [] (iv 1) [] ⟨rfl, rfl, rfl⟩ ⟨?_, rfl⟩
      rw [hc, hda, List.drop_eq_nil_of_le (show lb.length ≤ i by omega), cmpN]
  · have h : ¬ (i : Int) < (la.length : Nat) := of_decide_eq_false h
    have hil : i = la.length := by omega
    have hF : cmpN la lb = if 0 < lb.length - i then -1 else 0 := by
      rw [hc, List.drop_eq_nil_of_le (show la.length ≤ i by omega), cmpN_nil, List.length_drop]
    refine And.intro (fun h2 => ?_) (fun h2 => ?_)
    · have h2 : (la.length : Int) < (lb.length : Int) := of_decide_eq_true h2
      refine VRet.mk [] (iv (-1)) [] ⟨rfl, rfl, rfl⟩ ⟨?_, rfl⟩
      rw [hF, if_pos (by omega)]
    · have h2 : ¬ (la.length : Int) < (lb.length : Int) := of_decide_eq_false h2
      refine VRet.mk [] (iv 0) [] ⟨rfl, rfl, rfl⟩ ⟨?_, rfl⟩
      rw [hF, if_neg (by omega)]
theorem s_strings_Compare (a b : ByteArray) : Ctr Tryz.prog F_strings_Compare [.raw (.string a), .raw (.string b)] [] (fun x H => x = iv (compareBytes a.data.toList b.data.toList) ∧ H = []) := compare_ctr Tryz.laysCmp a b
theorem s_Keys_1 (a b : ByteArray) (ha : a.size ≤ 1000000) (hb : b.size ≤ 1000000) : Ctr Tryz.prog F_state_State_Keys_1 [.raw (.string a), .raw (.string b)] [] (fun v H => v = iv (cfK a b) ∧ H = []) := by
  refine i_state_State_Keys_1.spec follows ?_
  refine VCall.mk [] (s_name_Cmp a b ha hb) ⟨rfl, rfl, rfl⟩ ?_
  rintro _ _ ⟨rfl, rfl⟩
  refine VCall.mk [] (s_strings_Compare a b) ⟨rfl, rfl, rfl⟩ ?_
  rintro _ _ ⟨rfl, rfl⟩
  refine VCall.mk [0] (s_Or_int [cmpN (rn a) (rn b), compareBytes a.data.toList b.data.toList] 2 (by simp)) ⟨rfl, rfl, rfl⟩ ?_
  rintro _ _ ⟨rfl, rfl⟩
  exact VRet.mk [] (iv (cfK a b)) [] ⟨rfl, rfl, rfl⟩ ⟨rfl, rfl⟩
end
/-! ### slices.SortFunc at names -/
abbrev Nm := {b : ByteArray // b.size ≤ 1000000}
instance : Inhabited Nm := ⟨⟨ByteArray.mk #[], by decide⟩⟩
def encN (x : Nm) : Value := .string x.1
def cfN (x y : Nm) : Int := cfK x.1 y.1
theorem swo_cfN : Sort.SWO (ltOf cfN) where
  irrefl := fun x => swo_cfK.irrefl x.1
  trans := fun x y z => swo_cfK.trans x.1 y.1 z.1
  ntrans := fun x y z => swo_cfK.ntrans x.1 y.1 z.1
theorem s_SortN (d : List Nm) (xs : List Value) (o c : Nat) (hr : RowG bcl 1 xs o c (d.map (·.1))) (hl : d.length ≤ 1000000) : Ctr Tryz.prog F_slices_SortFunc_sl_string_string [.sl 0 o d.length c, .fn F_state_State_Keys_1 []] [.arr xs T_string]
    (fun x H => ∃ d' xs', x = .tup [] ∧ H = [.arr xs' T_string] ∧ d'.Perm (d.map (·.1)) ∧ d'.Pairwise (fun a b => ¬ cfK b a < 0) ∧ RowG bcl 1 xs' o c d') := by
  obtain ⟨h1, h2, h3⟩ := hr
  have ef : ∀ l : List Nm, (l.map (·.1)).flatMap bcl = l.map encN := by
    intro l; induction l with
    | nil => rfl
    | cons x l ih => rw [List.map_cons, List.flatMap_cons, ih]; rfl
  rw [ef] at h3
  simp only [List.length_map, Nat.mul_one] at h1 h2 h3
  have h := sort1_ctr Tryz.sortStr (fun p cap fv w => AnyF.slices_SortFunc_none Tryz.sortStr0 p cap fv w) encN (fun _ => rfl) (fun _ => rfl) cfN swo_cfN (gq := F_state_State_Keys_1) (by kernel_rfl)
    (fun x y => @Ctr.weak strictM _ _ _ _ _ _ (@s_Keys_1 strictM x.1 y.1 x.2 y.2) (fun v H' h => h.1)) (H := [.arr xs T_string]) (j := 0) (off := o) (cap := c) (xs := xs) (e := T_string) rfl d h3 (by omega) (by omega)
  refine Ctr.weak h ?_
  rintro v H' ⟨rfl, d', hp, hs, rfl⟩
  have hl := hp.length_eq
  refine ⟨d'.map (·.1), _, rfl, rfl, hp.map _, ?_, ?_⟩
  · rw [List.pairwise_map]
    refine hs.imp fun {a b} h => ?_
    have h : ltOf cfN b a = false := h
    have : ltOf cfK b.1 a.1 = false := h
    rw [Bool.eq_false_iff, Ne, ltOf_cfK] at this
    exact this
  · refine ⟨by rw [List.length_map]; omega, by rw [rowSet_len (by simp; omega)]; omega, ?_⟩
    rw [ef, List.length_map, Nat.mul_one]
    have := rowSet_cut (xs := xs) (o := o) (ys := d'.map encN) (by simp; omega)
    rw [List.length_map] at this
    exact this
end Go.Proofs

namespace Go.Proofs
open Go Go.V Go.Lib
set_option maxRecDepth 100000
set_option linter.unusedVariables false

/-! ### A state: values by kind and key -/
abbrev PK := Int × ByteArray
structure VV where
  a : AV
  fp : List Nat
  v : Value
abbrev MPV := List (PK × VV × Nat)
abbrev encP (p : PK) : Value := .agg #[.int .i64 p.1, .string p.2]
abbrev encVV (x : VV) : Value := x.v
theorem keyT_Place {mt et : TypeId} (h : Tryz.prog.underlying mt = some (.map T_state_place et)) : KeyT Tryz.prog mt et encP where
  ex := by
    have h1 : clsT Tryz.prog 2 T_state_place = some [.i, .s] := by kernel_rfl
    have h2 : isAggT Tryz.prog T_state_place = some true := by kernel_rfl
    refine ⟨T_state_place, 2, _, h, by omega, by omega, h1, fun a => ⟨[.int .i64 a.1, .string a.2], by simp [mkV, h2], rfl, fun b ys hb hl => ?_⟩⟩
    have : ys = [.int .i64 b.1, .string b.2] := by
      simp only [mkV, h2, if_true] at hb
      injection hb with hb
      have := congrArg Array.toList hb
      simpa using this.symm
    subst this
    refine ⟨decide (a.1 = b.1) && (a.2 == b.2), by simp [eqV, eq1V], ?_⟩
    obtain ⟨a1, a2⟩ := a
    obtain ⟨b1, b2⟩ := b
    cases a2 with | mk x => cases b2 with | mk z =>
      show (decide (a1 = b1) && (x == z)) = true ↔ _
      simp
  bits := fun a => by
    obtain ⟨a1, a2⟩ := a
    cases a2 with | mk x =>
      have h9 : ((ByteArray.mk x) == (ByteArray.mk x)) = true := by
        show (x == x) = true
        exact beq_self_eq_true x
      simp [Instr.sameBits, h9]
abbrev T_mapPV : TypeId := T_map_state_place_value_Value
theorem kP : KeyT Tryz.prog T_mapPV T_value_Value encP := keyT_Place (by kernel_rfl)
theorem lookP (ms : MPV) (p : PK) : LookupIs Tryz.prog T_mapPV (ents encP encVV ms) (encP p) (((MP.get ms p).map (·.v)).getD .nilIface) ((MP.get ms p).isSome) := by
  have := lookup_is (encv := encVV) kP (z := .nilIface) (by kernel_rfl) ms p
  cases h : MP.get ms p <;> rw [h] at this <;> exact this
abbrev SST (v : Nat → Int) (ms : MPV) (c : Nat) : List SO := [.cells (vcells v ++ [.mp 1]) T_state_State, .map (ents encP encVV ms) c]
/-! ### Keys -/
def keyE (k : Int) (e : PK × VV × Nat) : Bool := decide (e.1.1 = k)
def sortK (l : List ByteArray) : List ByteArray := l.mergeSort fun x y => !decide (cfK y x < 0)
theorem sortK_pw (l : List ByteArray) : (sortK l).Pairwise fun a b => ¬ cfK b a < 0 := by
  have := List.pairwise_mergeSort (le := fun x y : ByteArray => !decide (cfK y x < 0)) (fun a b c h1 h2 => by
    simp only [Bool.not_eq_true', decide_eq_false_iff_not] at h1 h2 ⊢
    have := swo_cfK.ntrans c b a
    rw [Bool.eq_false_iff, Bool.eq_false_iff, Bool.eq_false_iff, Ne, Ne, Ne, ltOf_cfK, ltOf_cfK, ltOf_cfK] at this
    exact this h2 h1) (fun a b => by
    simp only [Bool.or_eq_true, Bool.not_eq_true', decide_eq_false_iff_not]
    by_cases h : cfK b a < 0
    · exact .inr fun k => cfK_irr _ (cfK_trans h k)
    · exact .inl h) l
  exact this.imp fun h => by simpa using h
theorem sortK_uniq {d l : List ByteArray} (hp : d.Perm l) (hs : d.Pairwise fun a b => ¬ cfK b a < 0) : d = sortK l := by
  refine List.Perm.eq_of_pairwise (le := fun a b => ¬ cfK b a < 0) ?_ hs (sortK_pw l) (hp.trans (List.mergeSort_perm _ _).symm)
  intro a b _ _ h1 h2
  rcases cfK_tri a b with h | h | h
  · exact absurd h h2
  · exact h
  · exact absurd h h1
theorem sortK_len (l : List ByteArray) : (sortK l).length = l.length := List.length_mergeSort _
theorem mem_sortK {x : ByteArray} {l : List ByteArray} : x ∈ sortK l ↔ x ∈ l := (List.mergeSort_perm _ _).mem_iff
def keysT (ms : MPV) (k : Int) : List ByteArray := sortK ((ms.filter (keyE k)).map (·.1.2))
theorem keysT_len (ms : MPV) (k : Int) : (keysT ms k).length ≤ ms.length := by
  rw [keysT, sortK_len, List.length_map]; exact List.length_filter_le _ _
theorem mem_keysT {ms : MPV} {k : Int} {x : ByteArray} : x ∈ keysT ms k ↔ (k, x) ∈ ms.map (·.1) := by
  rw [keysT, mem_sortK, List.mem_map, List.mem_map]
  constructor
  · rintro ⟨e, he, rfl⟩
    have := List.mem_filter.1 he
    exact ⟨e, this.1, by have := of_decide_eq_true this.2; rw [← this]⟩
  · rintro ⟨e, he, h⟩
    exact ⟨e, List.mem_filter.2 ⟨he, by simp [keyE, h]⟩, by rw [h]⟩
structure KYX where
  pre : MPV
  seen : List Nat
  n : Nat
  xs : List Value
  o : Nat
  c : Nat
theorem s_Keys (v : Nat → Int) (ms : MPV) (c : Nat) (k : Int) (hm : MOK ms c) (hk : (ms.map (·.1)).Nodup) (hl : ms.length ≤ 1000000) (hsz : ∀ e, e ∈ ms → e.1.2.size ≤ 1000000) :
    Ctr Tryz.prog F_state_State_Keys [.ptr 0 0, iv k] (SST v ms c) (fun x H => ∃ xs o cp, x = .sl 2 o (keysT ms k).length cp ∧ H = SST v ms c ++ [.arr xs T_string] ∧ RowG bcl 1 xs o cp (keysT ms k)) := by
  refine i_state_State_Keys.spec follows ?_
  refine VLoop.nil T_string [5] [] ⟨rfl, rfl⟩ ?_
  refine VLoop.mk KYX (fun y => [(1, iv k), (5, .sl 3 y.o y.n y.c), (11, .ptr 2 0)]) (fun y => SST v ms c ++ [.iter (some 1) c y.seen c, .arr y.xs T_string]) (fun y => Been ms y.pre y.seen ∧ y.n = ((y.pre.filter (keyE k)).map (·.1.2)).length ∧ RowG bcl 1 y.xs y.o y.c ((y.pre.filter (keyE k)).map (·.1.2))) (fun y => ms.length - y.pre.length) ⟨[], [], 0, [], 0, 0⟩ [0, 1, 2, 3]
    ⟨⟨Been.nil _, rfl, ⟨Nat.le_refl _, by simp, by simp⟩⟩, rfl, rfl, rfl⟩ ?_
  rintro ⟨pre, seen, n, xs, o, cp⟩ ⟨h1, hn, hr⟩ g
  simp only at h1 hn hr
  refine And.intro ⟨fun e he => ?_, Nat.le_refl _⟩ (And.intro (fun hall => ?_) (fun e he hns => ?_))
  · obtain ⟨y, hy, rfl⟩ := List.mem_map.1 he
    exact hm.1 y hy
  · have hsub : ∀ y, y ∈ ms → y ∈ pre := fun y hy => h1.all hm.2 hy (hall _ (List.mem_map.2 ⟨y, hy, rfl⟩))
    have hnd : pre.Nodup := by have := h1.nd; rw [h1.eq] at this; exact nodup_of_map _ this
    have hp : pre.Perm ms := (List.perm_ext_iff_of_nodup hnd (nodup_of_map _ hk)).2 fun a => ⟨h1.sub a, hsub a⟩
    have hpl := hp.length_eq
    have hfl := List.length_filter_le (keyE k) pre
    have hnm : ∀ l : List ByteArray, (∀ x, x ∈ l → x.size ≤ 1000000) → ∃ d : List Nm, d.map (·.1) = l := by
      intro l
      induction l with
      | nil => intro _; exact ⟨[], rfl⟩
      | cons x l ih =>
        intro h
        obtain ⟨d, hd⟩ := ih fun y hy => h y (by simp [hy])
        exact ⟨⟨x, h x (by simp)⟩ :: d, by simp [hd]⟩
    obtain ⟨dn, hdn⟩ := hnm ((pre.filter (keyE k)).map (·.1.2)) (fun x hx => by
      obtain ⟨e, he, rfl⟩ := List.mem_map.1 hx
      exact hsz e (h1.sub e (List.mem_filter.1 he).1))
    have hdl : dn.length = ((pre.filter (keyE k)).map (·.1.2)).length := by rw [← hdn, List.length_map]
    subst hn
    rw [← hdn] at hr
    have hS := s_SortN dn xs o cp hr (by rw [hdl, List.length_map]; omega)
    rw [hdn, hdl] at hS
    refine VCall.mk [3] hS ⟨rfl, rfl, rfl⟩ ?_
    rintro _ _ ⟨d', xs', rfl, rfl, hp', hs, hr'⟩
    have hd : d' = keysT ms k := by
      unfold keysT
      have := sortK_uniq hp' hs
      rw [this]
      exact sortK_uniq ((List.mergeSort_perm _ _).trans ((hp.filter _).map _)) (sortK_pw _)
    have hdl' := hp'.length_eq
    subst hd
    rw [← hdl']
    exact VRet.mk [0, 1, 3] (.sl 2 o (keysT ms k).length cp) (SST v ms c ++ [.arr xs' T_string]) ⟨rfl, rfl, rfl⟩ ⟨xs', o, cp, rfl, rfl, hr'⟩
  · obtain ⟨y, hy, rfl⟩ := List.mem_map.1 he
    have hns : y.2.2 ∉ seen := hns
    have hlen : ms.length - (pre ++ [y]).length < ms.length - pre.length := by classical exact h1.len hy hns
    have hmore := h1.more hy hns
    have hfl := List.length_filter_le (keyE k) pre
    have hn1 : n = (pre.filter (keyE k)).length := by rw [hn, List.length_map]
    have hnb : (n + 1) * 16 ≤ 1099511627776 := by omega
    refine Exists.intro y.2.2 (Exists.intro (ent encP encVV y) (And.intro (last_snoc _ _) (And.intro (find_ents hm.2 hy) (And.intro rfl ?_))))
    refine And.intro (fun hx => ?_) (fun hx => ?_)
    · have hv : keyE k y = true := hx
      have e : ((pre ++ [y]).filter (keyE k)).map (·.1.2) = (pre.filter (keyE k)).map (·.1.2) ++ [y.1.2] := by rw [List.filter_append]; simp [hv]
      refine And.intro ⟨⟨by rw [hn]; exact hr.1, hr.2.1, rfl⟩, ⟨rfl, rfl⟩, hnb⟩ ?_
      intro xs' o' c' hz
      refine Exists.intro ⟨pre ++ [y], seen ++ [y.2.2], n + 1, xs', o', c'⟩ (Exists.intro [0, 1, 2, 6] (And.intro ⟨⟨hmore, ?_, ?_⟩, hlen⟩ ⟨rfl, rfl, rfl⟩))
      · simp only; rw [e, hn, List.length_append]; rfl
      · simp only; rw [e]; exact RowG.snoc hr hn hz.1 hz.2.1 hz.2.2
    · have hv : keyE k y = false := hx
      have e : (pre ++ [y]).filter (keyE k) = pre.filter (keyE k) := by rw [List.filter_append]; simp [hv]
      refine Exists.intro ⟨pre ++ [y], seen ++ [y.2.2], n, xs, o, cp⟩ (Exists.intro [0, 1, 2, 3] (And.intro ⟨⟨hmore, ?_, ?_⟩, hlen⟩ ⟨rfl, rfl, rfl⟩))
      · simp only; rw [e]; exact hn
      · simp only; rw [e]; exact hr
end Go.Proofs

namespace Go.Proofs
open Go Go.V Go.Lib
set_option maxRecDepth 100000
set_option linter.unusedVariables false

theorem Ctr.reval {P : Program} {f : FuncId} {args : List SV} {H : List SO} {Post Post' : SV → List SO → Prop} (h : Ctr P f args H Post)
    (hp : ∀ v H', Post v H' → ∃ v', (∀ ρ, V.val ρ v' = V.val ρ v) ∧ below H'.length v' = true ∧ Post' v' H') : Ctr P f args H Post' := by
  intro ρ g w h1 h2
  refine Calls.mono (h ρ g w h1 h2) ?_
  rintro e w' ⟨ρ', v, H', rfl, h4, h5, h6, h7, h8⟩
  obtain ⟨v', h9, h10, h11⟩ := hp v H' h8
  exact ⟨ρ', v', H', by rw [h9], h4, h5, h6, h10, h11⟩
theorem updh_same (h : Nat → Option Obj) (b : Nat) (o : Obj) : updh h b o b = some o := by simp [updh]
theorem updh_ne (h : Nat → Option Obj) {b b' : Nat} (o : Obj) (hn : b' ≠ b) : updh h b o b' = h b' := by simp [updh, hn]
theorem updh_none {h : Nat → Option Obj} {b b' : Nat} {o : Obj} (hn : updh h b o b' = none) : b' ≠ b ∧ h b' = none := by
  unfold updh at hn
  split at hn
  · cases hn
  · rename_i h1; exact ⟨h1, hn⟩
/-! ### New values in a heap -/
theorem valAt_set {hs : Nat → Option Obj} {b0 b1 b2 : Nat} {ms : MS} {c : Nat} {gs : GM} {c2 : Nat} (h0 : hs b0 = some (.cells #[.map (some b1), .map (some b2)] T_orset_Set (0, 0)))
    (h1 : hs b1 = some (.map (ents encD encT ms).toArray c)) (h2 : hs b2 = some (.map (ents encT encV gs).toArray c2)) (hn : b0 ≠ b1 ∧ b0 ≠ b2 ∧ b1 ≠ b2) :
    ValAt hs [b0, b1, b2] ((AV.set ms c gs c2).raw b0) (.set ms c gs c2) where
  len := rfl
  nd := by simp [hn]
  at' := ⟨b0, rfl, rfl⟩
  obj := fun k b o hk ho => by
    match k, hk, ho with
    | 0, hk, ho => simp [AV.blk] at hk ho; subst hk ho; rw [h0]; simp [objOf, valL, V.val]
    | 1, hk, ho => simp [AV.blk] at hk ho; subst hk ho; rw [h1]; rfl
    | 2, hk, ho => simp [AV.blk] at hk ho; subst hk ho; rw [h2]; rfl
    | k + 3, hk, ho => simp at hk
theorem s_New1 (hs : Nat → Option Obj) : Ctr Tryz.prog F_value_New [iv 1] [.heap hs] (fun x H => ∃ b0 b1 b2, x = .tup [.ifc T_value_Set (.agg [.raw (.pointer (some ⟨b0, 0, none⟩))]), iv 0] ∧
    H = [.heap (updh (updh (updh hs b1 (.map (ents encD encT ([] : MS)).toArray 0)) b2 (.map (ents encT encV ([] : GM)).toArray 0)) b0 (.cells #[.map (some b1), .map (some b2)] T_orset_Set (0, 0)))] ∧
    hs b1 = none ∧ updh hs b1 (.map (ents encD encT ([] : MS)).toArray 0) b2 = none ∧ updh (updh hs b1 (.map (ents encD encT ([] : MS)).toArray 0)) b2 (.map (ents encT encV ([] : GM)).toArray 0) b0 = none) := by
  refine i_value_New.spec follows ?_
  refine And.intro (fun _ => ?_) (fun h => absurd (of_decide_eq_false h) (by decide))
  refine VCall.mk [] s_orset_New ⟨rfl, rfl, rfl⟩ ?_
  rintro _ _ ⟨rfl, rfl⟩
  refine VRet.view (VView.pubMap 2 0 ⟨rfl, rfl⟩ fun b1 hb1 => ?_)
  refine VView.pubMap 3 0 ⟨rfl, rfl⟩ fun b2 hb2 => ?_
  refine VView.pubCells 1 0 ⟨rfl, rfl, rfl⟩ fun b0 hb0 => ?_
  refine VView.done ⟨_, rfl, VRet1.mk [0] (.tup [.ifc T_value_Set (.agg [.raw (.pointer (some ⟨b0, 0, none⟩))]), iv 0]) [.heap (updh (updh (updh hs b1 (.map (ents encD encT ([] : MS)).toArray 0)) b2 (.map (ents encT encV ([] : GM)).toArray 0)) b0 (.cells #[.map (some b1), .map (some b2)] T_orset_Set (0, 0)))] ⟨rfl, rfl, rfl⟩ ⟨b0, b1, b2, rfl, rfl, hb1, hb2, hb0⟩⟩
abbrev talC : Obj := .cells #[.int .i64 0, .int .i64 0, .int .i64 0, .int .i64 0, .int .i64 0, .int .i64 0, .int .i64 0, .int .i64 0, .int .i64 0, .int .i64 0, .int .i64 0, .int .i64 0, .int .i64 0, .int .i64 0] T_tally_Tally (0, 0)
abbrev lstC : Obj := .cells #[.bool false, .string (ByteArray.mk #[]), .int .i64 0, .int .i64 0, .int .i64 0] T_last_Last (0, 0)
theorem s_New2 (hs : Nat → Option Obj) : Ctr Tryz.prog F_value_New [iv 2] [.heap hs] (fun x H => ∃ b0, x = .tup [.ifc T_value_Number (.agg [.raw (.pointer (some ⟨b0, 0, none⟩))]), iv 0] ∧ H = [.heap (updh hs b0 talC)] ∧ hs b0 = none) := by
  refine i_value_New.spec follows ?_
  refine And.intro (fun h => absurd (of_decide_eq_true h) (by decide)) (fun _ => ?_)
  refine And.intro (fun _ => ?_) (fun h => absurd (of_decide_eq_false h) (by decide))
  refine VCall.mk [] s_tally_New ⟨rfl, rfl, rfl⟩ ?_
  rintro _ _ ⟨rfl, rfl⟩
  refine VRet.view (VView.pubCells 1 0 ⟨rfl, rfl, rfl⟩ fun b0 hb0 => ?_)
  exact VView.done ⟨_, rfl, VRet1.mk [0] (.tup [.ifc T_value_Number (.agg [.raw (.pointer (some ⟨b0, 0, none⟩))]), iv 0]) [.heap (updh hs b0 talC)] ⟨rfl, rfl, rfl⟩ ⟨b0, rfl, rfl, hb0⟩⟩
theorem s_New3 (hs : Nat → Option Obj) : Ctr Tryz.prog F_value_New [iv 3] [.heap hs] (fun x H => ∃ b0, x = .tup [.ifc T_value_Text (.agg [.raw (.pointer (some ⟨b0, 0, none⟩))]), iv 0] ∧ H = [.heap (updh hs b0 lstC)] ∧ hs b0 = none) := by
  refine i_value_New.spec follows ?_
  refine And.intro (fun h => absurd (of_decide_eq_true h) (by decide)) (fun _ => ?_)
  refine And.intro (fun h => absurd (of_decide_eq_true h) (by decide)) (fun _ => ?_)
  refine And.intro (fun _ => ?_) (fun h => absurd (of_decide_eq_false h) (by decide))
  refine VCall.mk [] s_last_New ⟨rfl, rfl, rfl⟩ ?_
  rintro _ _ ⟨rfl, rfl⟩
  refine VRet.view (VView.pubCells 1 0 ⟨rfl, rfl, rfl⟩ fun b0 hb0 => ?_)
  exact VView.done ⟨_, rfl, VRet1.mk [0] (.tup [.ifc T_value_Text (.agg [.raw (.pointer (some ⟨b0, 0, none⟩))]), iv 0]) [.heap (updh hs b0 lstC)] ⟨rfl, rfl, rfl⟩ ⟨b0, rfl, rfl, hb0⟩⟩
theorem s_NewH (hs : Nat → Option Obj) (k : Int) (hk : 1 ≤ k ∧ k ≤ 3) : Ctr Tryz.prog F_value_New [iv k] [.heap hs] (fun x H => ∃ hs' fp v, x = .tup [.raw v, iv 0] ∧ H = [.heap hs'] ∧ ValAt hs' fp v (newAV k) ∧ (∀ b, b ∈ fp → hs b = none) ∧ ∀ b, b ∉ fp → hs' b = hs b) := by
  have h3 : k = 1 ∨ k = 2 ∨ k = 3 := by omega
  rcases h3 with rfl | rfl | rfl
  · refine Ctr.reval (s_New1 hs) ?_
    rintro v H' ⟨b0, b1, b2, rfl, rfl, h1, h2, h0⟩
    obtain ⟨n2, h2'⟩ := updh_none h2
    obtain ⟨n02, h0'⟩ := updh_none h0
    obtain ⟨n01, h0''⟩ := updh_none h0'
    refine ⟨.tup [.raw ((AV.set [] 0 [] 0).raw b0), iv 0], fun ρ => by simp [V.val, valL, AV.raw], rfl, _, [b0, b1, b2], (AV.set [] 0 [] 0).raw b0, rfl, rfl, ?_, ?_, ?_⟩
    · refine valAt_set (updh_same _ _ _) ?_ ?_ ⟨n01, n02, fun e => n2 e.symm⟩
      · rw [updh_ne _ _ (fun e => n01 e.symm), updh_ne _ _ (fun e => n2 e.symm), updh_same]
      · rw [updh_ne _ _ (fun e => n02 e.symm), updh_same]
    · intro b hb
      simp only [List.mem_cons, List.not_mem_nil, or_false] at hb
      rcases hb with rfl | rfl | rfl <;> assumption
    · intro b hb
      simp only [List.mem_cons, List.not_mem_nil, or_false, not_or] at hb
      rw [updh_ne _ _ hb.1, updh_ne _ _ hb.2.2, updh_ne _ _ hb.2.1]
  · refine Ctr.reval (s_New2 hs) ?_
    rintro v H' ⟨b0, rfl, rfl, h0⟩
    refine ⟨.tup [.raw ((AV.num vz vz).raw b0), iv 0], fun ρ => by simp [V.val, valL, AV.raw], rfl, _, [b0], (AV.num vz vz).raw b0, rfl, rfl, ⟨rfl, by simp, ⟨b0, rfl, rfl⟩, ?_⟩, ?_, ?_⟩
    · intro k b o hk ho
      match k, hk, ho with
      | 0, hk, ho => simp [newAV, AV.blk] at hk ho; subst hk ho; rw [updh_same]; rfl
      | k + 1, hk, ho => simp at hk
    · intro b hb; simp at hb; subst hb; exact h0
    · intro b hb; simp at hb; exact updh_ne _ _ hb
  · refine Ctr.reval (s_New3 hs) ?_
    rintro v H' ⟨b0, rfl, rfl, h0⟩
    refine ⟨.tup [.raw ((AV.txt L0v).raw b0), iv 0], fun ρ => by simp [V.val, valL, AV.raw], rfl, _, [b0], (AV.txt L0v).raw b0, rfl, rfl, ⟨rfl, by simp, ⟨b0, rfl, rfl⟩, ?_⟩, ?_, ?_⟩
    · intro k b o hk ho
      match k, hk, ho with
      | 0, hk, ho => simp [newAV, AV.blk] at hk ho; subst hk ho; rw [updh_same]; rfl
      | k + 1, hk, ho => simp at hk
    · intro b hb; simp at hb; subst hb; exact h0
    · intro b hb; simp at hb; exact updh_ne _ _ hb
theorem newAV_ok (k : Int) (N : Nat) : (newAV k).ok N := by
  unfold newAV
  split
  · exact ⟨MOK.nil 0, by simp, Nat.zero_le _, by simp, MOK.nil 0, by simp, Nat.zero_le _⟩
  · split
    · exact TI.zero
    · exact LI.new
theorem newAV_kind {k : Int} (hk : 1 ≤ k ∧ k ≤ 3) : (newAV k).kind = k := by
  have h3 : k = 1 ∨ k = 2 ∨ k = 3 := by omega
  rcases h3 with rfl | rfl | rfl <;> rfl
theorem ValAt.keep {hs hs' : Nat → Option Obj} {fp : List Nat} {v : Value} {a : AV} (h : ValAt hs fp v a) (hk : ∀ b, b ∈ fp → hs' b = hs b) : ValAt hs' fp v a :=
  ⟨h.len, h.nd, h.at', fun k b o h1 h2 => by rw [hk b (List.mem_of_getElem? h1)]; exact h.obj k b o h1 h2⟩
theorem ValAt.some {hs : Nat → Option Obj} {fp : List Nat} {v : Value} {a : AV} (h : ValAt hs fp v a) {b : Nat} (hb : b ∈ fp) : hs b ≠ none := by
  obtain ⟨k, hk, rfl⟩ := List.mem_iff_getElem.1 hb
  have hk2 : k < a.blk.length := by rw [← h.len]; exact hk
  rw [h.obj k _ _ (List.getElem?_eq_getElem hk) (List.getElem?_eq_getElem hk2)]
  exact isCM_obj (a.cm _ (List.getElem_mem hk2))
/-! ### What holds of a state -/
structure StI (hs : Nat → Option Obj) (v : Nat → Int) (ms : MPV) (c N : Nat) : Prop where
  v : ∀ r, r < 7 → 0 ≤ v r ∧ v r ≤ 1099511627776
  m : MOK ms c
  km : (ms.map (·.1)).Nodup
  ml : ms.length ≤ N
  key : ∀ e, e ∈ ms → e.1.2.size ≤ 1000
  kind : ∀ e, e ∈ ms → e.2.1.a.kind = e.1.1 ∧ 1 ≤ e.1.1 ∧ e.1.1 ≤ 3
  ok : ∀ e, e ∈ ms → e.2.1.a.ok N
  at' : ∀ e, e ∈ ms → ValAt hs e.2.1.fp e.2.1.v e.2.1.a
  dis : ∀ e e', e ∈ ms → e' ∈ ms → e.1 ≠ e'.1 → ∀ b, b ∈ e.2.1.fp → b ∉ e'.2.1.fp
theorem StI.new (hs : Nat → Option Obj) : StI hs (fun _ => 0) [] 0 0 where
  v := fun r _ => ⟨Int.le_refl _, by show (0 : Int) ≤ _; decide⟩
  m := MOK.nil 0
  km := by simp
  ml := Nat.le_refl _
  key := by simp
  kind := by simp
  ok := by simp
  at' := by simp
  dis := by simp
theorem mem_put2 {K V : Type} [DecidableEq K] {ms : List (K × V × Nat)} (hk : (ms.map (·.1)).Nodup) {p : K} {x : V} {c : Nat} {e : K × V × Nat} (he : e ∈ MP.put ms p x c) : (e.1 = p ∧ e.2.1 = x) ∨ (e.1 ≠ p ∧ e ∈ ms) := by
  have h1 := get_of_mem (nodup_put hk p x c) he
  rw [get_put] at h1
  by_cases h : e.1 = p
  · rw [if_pos h] at h1; exact .inl ⟨h, (Option.some.inj h1).symm⟩
  · rcases mem_put he with h2 | ⟨h2, _⟩
    · exact .inr ⟨h, h2⟩
    · exact absurd h2 h
/-- Other blocks turned alone. -/
theorem StI.keep {hs hs' : Nat → Option Obj} {v : Nat → Int} {ms : MPV} {c N : Nat} (h : StI hs v ms c N) (hk : ∀ e, e ∈ ms → ∀ b, b ∈ e.2.1.fp → hs' b = hs b) : StI hs' v ms c N :=
  ⟨h.v, h.m, h.km, h.ml, h.key, h.kind, h.ok, fun e he => (h.at' e he).keep (hk e he), h.dis⟩
theorem StI.mono {hs : Nat → Option Obj} {v : Nat → Int} {ms : MPV} {c N M : Nat} (h : StI hs v ms c N) (hN : N ≤ M) : StI hs v ms c M :=
  ⟨h.v, h.m, h.km, Nat.le_trans h.ml hN, h.key, h.kind, fun e he => AV.ok_mono (h.ok e he) hN, h.at', h.dis⟩
theorem StI.put {hs hs' : Nat → Option Obj} {v : Nat → Int} {ms : MPV} {c N : Nat} (h : StI hs v ms c N) {p : PK} {x : VV} (hkd : x.a.kind = p.1 ∧ 1 ≤ p.1 ∧ p.1 ≤ 3) (hok : x.a.ok (N + 1)) (hsz : p.2.size ≤ 1000)
    (hat : ValAt hs' x.fp x.v x.a) (hkeep : ∀ b, b ∉ x.fp → hs' b = hs b) (hfp : ∀ e, e ∈ ms → e.1 ≠ p → ∀ b, b ∈ e.2.1.fp → b ∉ x.fp) :
    StI hs' v (MP.put ms p x c) (if (MP.get ms p).isSome then c else c + 1) (N + 1) where
  v := h.v
  m := h.m.put _ _
  km := nodup_put h.km _ _ _
  ml := by rw [len_put]; have := h.ml; split <;> omega
  key := fun e he => by
    rcases mem_put2 h.km he with ⟨h1, _⟩ | ⟨_, h2⟩
    · rw [h1]; exact hsz
    · exact h.key e h2
  kind := fun e he => by
    rcases mem_put2 h.km he with ⟨h1, h2⟩ | ⟨_, h2⟩
    · rw [h1, h2]; exact hkd
    · exact h.kind e h2
  ok := fun e he => by
    rcases mem_put2 h.km he with ⟨h1, h2⟩ | ⟨_, h2⟩
    · rw [h2]; exact hok
    · exact AV.ok_mono (h.ok e h2) (Nat.le_succ N)
  at' := fun e he => by
    rcases mem_put2 h.km he with ⟨h1, h2⟩ | ⟨h1, h2⟩
    · rw [h2]; exact hat
    · exact (h.at' e h2).keep fun b hb => hkeep b (hfp e h2 h1 b hb)
  dis := fun e e' he he' hne b hb => by
    rcases mem_put2 h.km he with ⟨h1, h2⟩ | ⟨h1, h2⟩ <;> rcases mem_put2 h.km he' with ⟨h1', h2'⟩ | ⟨h1', h2'⟩
    · exact absurd (h1.trans h1'.symm) hne
    · rw [h2] at hb
      exact fun hb' => hfp e' h2' h1' b hb' hb
    · rw [h2']
      exact hfp e h2 h1 b hb
    · exact h.dis e e' h2 h2' hne b hb
end Go.Proofs

namespace Go.Proofs
open Go Go.V Go.Lib
set_option maxRecDepth 100000
set_option linter.unusedVariables false

/-! ### A state takes a shadow -/
def kindS (s : SH) : Int := if s.kind = 3 then 2 else if s.kind = 4 then 3 else 1
theorem kindS_bd (s : SH) : 1 ≤ kindS s ∧ kindS s ≤ 3 := by
  unfold kindS; split
  · decide
  · split <;> decide
theorem s_kindOf (s : SH) : Ctr Tryz.prog F_state_kindOf [.agg (shcells s)] [] (fun x H => x = iv (kindS s) ∧ H = []) := by
  refine i_state_kindOf.spec follows ?_
  refine And.intro (fun h => ?_) (fun h => ?_)
  · have h : s.kind = 3 := of_decide_eq_true h
    refine VRet.mk [] (iv 2) [] ⟨rfl, rfl, rfl⟩ ⟨?_, rfl⟩
    unfold kindS; rw [if_pos h]
  · have h : ¬ s.kind = 3 := of_decide_eq_false h
    refine And.intro (fun h2 => ?_) (fun h2 => ?_)
    · have h2 : s.kind = 4 := of_decide_eq_true h2
      refine VRet.mk [] (iv 3) [] ⟨rfl, rfl, rfl⟩ ⟨?_, rfl⟩
      unfold kindS; rw [if_neg h, if_pos h2]
    · have h2 : ¬ s.kind = 4 := of_decide_eq_false h2
      refine VRet.mk [] (iv 1) [] ⟨rfl, rfl, rfl⟩ ⟨?_, rfl⟩
      unfold kindS; rw [if_neg h, if_neg h2]
abbrev atS (s : SH) : PK := (kindS s, s.key)
def lk (ms : MPV) (p : PK) : Option AV := (MP.get ms p).map (·.a)
/-- The value that takes the shadow. -/
def oldA (f : PK → Option AV) (s : SH) : AV := (f (atS s)).getD (newAV (kindS s))
def appE (v : Nat → Int) (f : PK → Option AV) (s : SH) : Int :=
  if goodS s = false then 1 else if has v s.rep s.n = true then 5 else if readyB s v = false then 8 else (putAV (oldA f s) s).1
def appV (v : Nat → Int) (f : PK → Option AV) (s : SH) : Nat → Int := if appE v f s = 0 then upv v s.rep.toNat s.n else v
def appF (v : Nat → Int) (f : PK → Option AV) (s : SH) (p : PK) : Option AV := if appE v f s = 0 ∧ p = atS s then some (putAV (oldA f s) s).2 else f p
def AppPost2 (h : Nat → Option Obj) (v : Nat → Int) (ms : MPV) (N : Nat) (s : SH) (x : SV) (H : List SO) : Prop :=
  ∃ hs' ms' c', x = iv (appE v (lk ms) s) ∧ H = SST (appV v (lk ms) s) ms' c' ++ [.heap hs', .heap h] ∧ StI hs' (appV v (lk ms) s) ms' c' (if appE v (lk ms) s = 0 then N + 1 else N) ∧ ∀ p, lk ms' p = appF v (lk ms) s p
def AppPost (h : Nat → Option Obj) (v : Nat → Int) (ms : MPV) (N : Nat) (s : SH) (x : SV) (H : List SO) : Prop :=
  ∃ hs' ms' c', x = iv (appE v (lk ms) s) ∧ H = SST (appV v (lk ms) s) ms' c' ++ [.heap hs', .heap h] ∧ StI hs' (appV v (lk ms) s) ms' c' (N + 1) ∧ ∀ p, lk ms' p = appF v (lk ms) s p
theorem goodS_rep {s : SH} (h : goodS s = true) : (0 ≤ s.rep ∧ s.rep < 7) ∧ 1 ≤ s.n ∧ s.n ≤ 1099511627776 := by
  unfold goodS at h
  simp only [Bool.and_eq_true] at h
  exact isDot_bd h.1
theorem s_Apply2 (h : Nat → Option Obj) (hu : Uni h) (hs : Nat → Option Obj) (v : Nat → Int) (ms : MPV) (c N : Nat) (hI : StI hs v ms c N) (s : SH) (hz : s.key.size ≤ 1000) :
    Ctr Tryz.prog F_state_State_Apply [.ptr 0 0, .agg (shcells s)] (SST v ms c ++ [.heap hs, .heap h]) (AppPost2 h v ms N s) := by
  have no : ∀ e, e ≠ 0 → appE v (lk ms) s = e → ∀ hs', StI hs' v ms c N → AppPost2 h v ms N s (iv e) (SST v ms c ++ [.heap hs', .heap h]) := by
    intro e he hE hs' hI'
    have hV : appV v (lk ms) s = v := by unfold appV; rw [if_neg (by rw [hE]; exact he)]
    refine ⟨hs', ms, c, by rw [hE], by rw [hV], by rw [hV, if_neg (by rw [hE]; exact he)]; exact hI', fun p => ?_⟩
    unfold appF; rw [if_neg (fun k => he (hE ▸ k.1))]
  refine i_state_State_Apply.spec follows ?_
  refine VCall.mk [3] (s_shadow_Good h hu s (by omega)) ⟨rfl, rfl, rfl⟩ ?_
  rintro _ _ ⟨rfl, rfl⟩
  refine And.intro (fun h1 => ?_) (fun h1 => ?_)
  · have h1 : goodS s = false := by simpa using h1
    have hE : appE v (lk ms) s = 1 := by unfold appE; rw [if_pos h1]
    exact VRet.mk [0, 1, 2, 3] (iv 1) (SST v ms c ++ [.heap hs, .heap h]) ⟨rfl, rfl, rfl⟩ (no 1 (by decide) hE hs hI)
  have h1 : goodS s = true := by simpa using h1
  have hg1 : ¬ goodS s = false := by rw [h1]; decide
  refine VCall.mk [] (s_vec_Has v s.rep s.n) ⟨rfl, rfl, rfl⟩ ?_
  rintro _ _ ⟨rfl, rfl⟩
  refine And.intro (fun h2 => ?_) (fun h2 => ?_)
  · have h2 : has v s.rep s.n = true := h2
    have hE : appE v (lk ms) s = 5 := by unfold appE; rw [if_neg hg1, if_pos h2]
    exact VRet.mk [0, 1, 2, 3] (iv 5) (SST v ms c ++ [.heap hs, .heap h]) ⟨rfl, rfl, rfl⟩ (no 5 (by decide) hE hs hI)
  have h2 : has v s.rep s.n = false := h2
  have hg2 : ¬ has v s.rep s.n = true := by rw [h2]; decide
  refine VCall.mk [] (s_shadow_Ready s v) ⟨rfl, rfl, rfl⟩ ?_
  rintro _ _ ⟨rfl, rfl⟩
  refine And.intro (fun h3 => ?_) (fun h3 => ?_)
  · have h3 : readyB s v = false := by simpa using h3
    have hE : appE v (lk ms) s = 8 := by unfold appE; rw [if_neg hg1, if_neg hg2, if_pos h3]
    exact VRet.mk [0, 1, 2, 3] (iv 8) (SST v ms c ++ [.heap hs, .heap h]) ⟨rfl, rfl, rfl⟩ (no 8 (by decide) hE hs hI)
  have h3 : readyB s v = true := by simpa using h3
  have hE : appE v (lk ms) s = (putAV (oldA (lk ms) s) s).1 := by unfold appE; rw [if_neg hg1, if_neg hg2, if_neg (by rw [h3]; decide)]
  obtain ⟨hr, hn1, hn2⟩ := goodS_rep h1
  have hkb := kindS_bd s
  have yes : (putAV (oldA (lk ms) s) s).1 = 0 → ∀ hs' fp w, ValAt hs' fp w (putAV (oldA (lk ms) s) s).2 → (putAV (oldA (lk ms) s) s).2.ok (N + 1) → (putAV (oldA (lk ms) s) s).2.kind = kindS s →
      ∀ hs0, StI hs0 v ms c N → (∀ b, b ∉ fp → hs' b = hs0 b) → (∀ e, e ∈ ms → e.1 ≠ atS s → ∀ b, b ∈ e.2.1.fp → b ∉ fp) →
      AppPost2 h v ms N s (iv 0) (SST (upv v s.rep.toNat s.n) (MP.put ms (atS s) ⟨(putAV (oldA (lk ms) s) s).2, fp, w⟩ c) (if (MP.get ms (atS s)).isSome then c else c + 1) ++ [.heap hs', .heap h]) := by
    intro he hs' fp w hat hok hkd hs0 hI0 hkeep hfp
    rw [he] at hE
    have hV : appV v (lk ms) s = upv v s.rep.toNat s.n := by unfold appV; rw [if_pos hE]
    refine ⟨hs', _, _, by rw [hE], by rw [hV], ?_, fun p => ?_⟩
    · rw [hV, if_pos hE]
      have h9 := hI0.put (hs' := hs') (p := atS s) (x := ⟨(putAV (oldA (lk ms) s) s).2, fp, w⟩) ⟨hkd, hkb⟩ hok hz hat hkeep hfp
      refine ⟨fun r hr7 => ?_, h9.m, h9.km, h9.ml, h9.key, h9.kind, h9.ok, h9.at', h9.dis⟩
      unfold upv
      split
      · omega
      · exact hI.v r hr7
    · unfold lk appF
      rw [get_put]
      by_cases hp : p = atS s
      · rw [if_pos hp, if_pos ⟨hE, hp⟩]; rfl
      · rw [if_neg hp, if_neg (fun k => hp k.2)]
  refine And.intro ?ordA ?ordB
  case' ordA =>
    refine VCall.mk [] (s_kindOf s) ⟨rfl, rfl, rfl⟩ ?_
    rintro _ _ ⟨rfl, rfl⟩
    refine And.intro rfl ?_
    refine And.intro rfl (And.intro rfl ?_)
  case' ordB =>
    refine And.intro rfl (And.intro rfl ?_)
    refine VCall.mk [] (s_kindOf s) ⟨rfl, rfl, rfl⟩ ?_
    rintro _ _ ⟨rfl, rfl⟩
    refine And.intro rfl ?_
  all_goals
    refine Exists.intro (.raw (((MP.get ms (atS s)).map (·.v)).getD .nilIface)) (Exists.intro _ (Exists.intro _ (And.intro (lookP ms (atS s)) (And.intro rfl ?_))))
    refine And.intro (fun h4 => ?_) (fun h4 => ?_)
    · have h4 : MP.get ms (atS s) = none := by simpa using h4
      have hold : oldA (lk ms) s = newAV (kindS s) := by unfold oldA lk; rw [h4]; rfl
      refine VCall.mk [2] (s_NewH hs (kindS s) hkb) ⟨rfl, rfl, rfl⟩ ?_
      rintro _ _ ⟨hs1, fp, w, rfl, rfl, hv1, hfr, hkp⟩
      refine VCall.mk [2] (s_putH hs1 fp w (newAV (kindS s)) N (newAV_ok _ _) hv1 s) ⟨rfl, rfl, rfl⟩ ?_
      rintro _ _ ⟨rfl, hs2, rfl, hv2, hkp2⟩
      rw [← hold] at hv2
      have hnf : ∀ e, e ∈ ms → ∀ b, b ∈ e.2.1.fp → b ∉ fp := fun e he b hb hb' => (hI.at' e he).some hb (hfr b hb')
      have hkp3 : ∀ b, b ∉ fp → hs2 b = hs b := fun b hb => by rw [hkp2 b hb, hkp b hb]
      refine And.intro (fun h5 => ?_) (fun h5 => ?_)
      · have h5 : (putAV (newAV (kindS s)) s).1 ≠ 0 := by simpa using h5
        refine VRet.mk [0, 1, 2, 3] (iv (putAV (newAV (kindS s)) s).1) (SST v ms c ++ [.heap hs2, .heap h]) ⟨rfl, rfl, rfl⟩ (no _ h5 (by rw [hE, hold]) hs2 (hI.keep fun e he b hb => hkp3 b (hnf e he b hb)))
      · have h5 : (putAV (newAV (kindS s)) s).1 = 0 := by simpa using h5
        refine Exists.intro _ (Exists.intro _ (And.intro (update_is (encv := encVV) kP ms c (atS s) ⟨(putAV (oldA (lk ms) s) s).2, fp, w⟩) ?_))
        refine And.intro hr ?_
        refine Exists.intro _ (And.intro (vcells_put v s.n hr [.mp 1]) ?_)
        have hok := putAV_ok (a := newAV (kindS s)) (newAV_ok (kindS s) N) s
        rw [← hold] at hok h5
        refine VRet.mk [0, 1, 2, 3] (iv 0) (SST (upv v s.rep.toNat s.n) (MP.put ms (atS s) ⟨(putAV (oldA (lk ms) s) s).2, fp, w⟩ c) (if (MP.get ms (atS s)).isSome then c else c + 1) ++ [.heap hs2, .heap h]) ⟨rfl, rfl, rfl⟩
          (yes h5 hs2 fp w hv2 hok.1 (by rw [hok.2, hold, newAV_kind hkb]) hs hI hkp3 (fun e he _ b hb => hnf e he b hb))
    · obtain ⟨x, hx⟩ : ∃ x, MP.get ms (atS s) = some x := by
        have h4 : (MP.get ms (atS s)).isSome = true := by simpa using h4
        exact Option.isSome_iff_exists.1 h4
      obtain ⟨e0, he0, hp0, hx0⟩ := mem_of_get hx
      have hold : oldA (lk ms) s = x.a := by unfold oldA lk; rw [hx]; rfl
      have hat0 := hI.at' e0 he0
      have hok0 := hI.ok e0 he0
      have hkd0 := hI.kind e0 he0
      rw [hx0] at hat0 hok0 hkd0
      rw [hp0] at hkd0
      rw [hx]
      refine VCall.mk [2] (s_putH hs x.fp x.v x.a N hok0 hat0 s) ⟨rfl, rfl, rfl⟩ ?_
      rintro _ _ ⟨rfl, hs2, rfl, hv2, hkp2⟩
      have hdis : ∀ e, e ∈ ms → e.1 ≠ atS s → ∀ b, b ∈ e.2.1.fp → b ∉ x.fp := fun e he hne b hb => by
        have := hI.dis e e0 he he0 (by rw [hp0]; exact hne) b hb
        rw [hx0] at this; exact this
      refine And.intro (fun h5 => ?_) (fun h5 => ?_)
      · have h5 : (putAV x.a s).1 ≠ 0 := by simpa using h5
        have hsame := putAV_no h5
        rw [hsame] at hv2
        have hkk : ∀ b, hs2 b = hs b := fun b => by
          by_cases hb : b ∈ x.fp
          · obtain ⟨k, hk, rfl⟩ := List.mem_iff_getElem.1 hb
            have hk2 : k < x.a.blk.length := by rw [← hat0.len]; exact hk
            rw [hv2.obj k _ _ (List.getElem?_eq_getElem hk) (List.getElem?_eq_getElem hk2), hat0.obj k _ _ (List.getElem?_eq_getElem hk) (List.getElem?_eq_getElem hk2)]
          · exact hkp2 b hb
        refine VRet.mk [0, 1, 2, 3] (iv (putAV x.a s).1) (SST v ms c ++ [.heap hs2, .heap h]) ⟨rfl, rfl, rfl⟩ (no _ h5 (by rw [hE, hold]) hs2 (hI.keep fun e he b hb => hkk b))
      · have h5 : (putAV x.a s).1 = 0 := by simpa using h5
        have hok := putAV_ok hok0 s
        rw [← hold] at hok h5 hv2
        refine Exists.intro _ (Exists.intro _ (And.intro (update_is (encv := encVV) kP ms c (atS s) ⟨(putAV (oldA (lk ms) s) s).2, x.fp, x.v⟩) ?_))
        refine And.intro hr ?_
        refine Exists.intro _ (And.intro (vcells_put v s.n hr [.mp 1]) ?_)
        refine VRet.mk [0, 1, 2, 3] (iv 0) (SST (upv v s.rep.toNat s.n) (MP.put ms (atS s) ⟨(putAV (oldA (lk ms) s) s).2, x.fp, x.v⟩ c) (if (MP.get ms (atS s)).isSome then c else c + 1) ++ [.heap hs2, .heap h]) ⟨rfl, rfl, rfl⟩
          (yes h5 hs2 x.fp x.v hv2 hok.1 (by rw [hok.2, hold]; exact hkd0.1) hs hI hkp2 hdis)
theorem s_Apply (h : Nat → Option Obj) (hu : Uni h) (hs : Nat → Option Obj) (v : Nat → Int) (ms : MPV) (c N : Nat) (hI : StI hs v ms c N) (s : SH) (hz : s.key.size ≤ 1000) :
    Ctr Tryz.prog F_state_State_Apply [.ptr 0 0, .agg (shcells s)] (SST v ms c ++ [.heap hs, .heap h]) (AppPost h v ms N s) :=
  Ctr.weak (s_Apply2 h hu hs v ms c N hI s hz) fun x H ⟨hs', ms', c', h1, h2, h3, h4⟩ => ⟨hs', ms', c', h1, h2, h3.mono (by split <;> omega), h4⟩
end Go.Proofs

namespace Go.Proofs
open Go Go.V Go.Lib
set_option maxRecDepth 100000
set_option linter.unusedVariables false

/-! ### A state's bytes -/
def bytesAt (f : PK → Option AV) (p : PK) : List Int := ((f p).map AV.bytes).getD []
def entB (f : PK → Option AV) (k : Int) (x : ByteArray) : List Int := zB k ++ textB x ++ bytesAt f (k, x)
def kB (ms : MPV) (k : Int) : List Int := (keysT ms k).flatMap (entB (lk ms) k)
def preB (ms : MPV) : Nat → List Int
  | 0 => []
  | u + 1 => preB ms u ++ kB ms ((u + 1 : Nat) : Int)
def stB (v : Nat → Int) (ms : MPV) : List Int := vecB v 7 ++ preB ms 3
theorem StI.get {hs : Nat → Option Obj} {v : Nat → Int} {ms : MPV} {c N : Nat} (h : StI hs v ms c N) {p : PK} {x : VV} (hx : MP.get ms p = some x) : ValAt hs x.fp x.v x.a ∧ x.a.ok N ∧ x.a.kind = p.1 ∧ p.2.size ≤ 1000 := by
  obtain ⟨e, he, h1, h2⟩ := mem_of_get hx
  have a1 := h.at' e he
  have a2 := h.ok e he
  have a3 := h.kind e he
  have a4 := h.key e he
  rw [h2] at a1 a2 a3
  rw [h1] at a3 a4
  exact ⟨a1, a2, a3.1, a4⟩
theorem keysT_get {ms : MPV} {k : Int} {x : ByteArray} (h : x ∈ keysT ms k) : ∃ y, MP.get ms (k, x) = some y :=
  Option.isSome_iff_exists.1 (get_mem.2 (mem_keysT.1 h))
theorem StI.entB_len {hs : Nat → Option Obj} {v : Nat → Int} {ms : MPV} {c N : Nat} (h : StI hs v ms c N) (hN : N ≤ 100) {k : Int} (hk : 0 ≤ k ∧ k ≤ 3) {x : ByteArray} (hx : x ∈ keysT ms k) : (entB (lk ms) k x).length ≤ 301040 := by
  obtain ⟨y, hy⟩ := keysT_get hx
  obtain ⟨_, h2, _, h4⟩ := h.get hy
  have h5 := AV.bytes_len h2 hN
  have h6 := textB_len (s := x) h4
  have h7 := zB_len (v := k) (by omega)
  have h8 : bytesAt (lk ms) (k, x) = y.a.bytes := by unfold bytesAt lk; rw [hy]; rfl
  rw [entB, List.length_append, List.length_append, h8]; omega
theorem StI.kB_len {hs : Nat → Option Obj} {v : Nat → Int} {ms : MPV} {c N : Nat} (h : StI hs v ms c N) (hN : N ≤ 100) {k : Int} (hk : 0 ≤ k ∧ k ≤ 3) (i : Nat) : (((keysT ms k).take i).flatMap (entB (lk ms) k)).length ≤ 30104000 := by
  have h1 := flat_lenC (f := entB (lk ms) k) (C := 301040) (l := (keysT ms k).take i) fun x hx => h.entB_len hN hk (List.mem_of_mem_take hx)
  have h2 := keysT_len ms k
  have h3 := h.ml
  rw [List.length_take] at h1
  have h4 : 301040 * min i (keysT ms k).length ≤ 301040 * 100 := Nat.mul_le_mul_left _ (by omega)
  omega
theorem StI.preB_len {hs : Nat → Option Obj} {v : Nat → Int} {ms : MPV} {c N : Nat} (h : StI hs v ms c N) (hN : N ≤ 100) : ∀ u, u ≤ 3 → (preB ms u).length ≤ 30104000 * u
  | 0, _ => by simp [preB]
  | u + 1, hu => by
    have h1 := StI.preB_len h hN u (by omega)
    have h2 := h.kB_len hN (k := ((u + 1 : Nat) : Int)) (by omega) (keysT ms ((u + 1 : Nat) : Int)).length
    rw [List.take_length] at h2
    have h3 : (kB ms ((u + 1 : Nat) : Int)).length ≤ 30104000 := h2
    rw [preB, List.length_append]; omega
theorem s_Bytes (hs : Nat → Option Obj) (v : Nat → Int) (ms : MPV) (c N : Nat) (hI : StI hs v ms c N) (hN : N ≤ 100) :
    Ctr Tryz.prog F_state_State_Bytes [.ptr 0 0] (SST v ms c ++ [.heap hs]) (fun x H => ∃ o cp ys, x = .sl 3 o (stB v ms).length cp ∧ H = SST v ms c ++ [.heap hs, .arr ys T_uint8] ∧ Brow ys o cp (stB v ms)) := by
  have hml := hI.ml
  have hvv : ∀ r, r < 7 → 0 ≤ v r ∧ v r ≤ 2305843009213693951 := fun r hr => by have := hI.v r hr; omega
  have hvl := vecB_len hvv 7 (Nat.le_refl _)
  refine i_state_State_Bytes.spec follows ?_
  refine VCall.nil T_uint8 [0] [] ⟨rfl, rfl⟩ ?_
  refine VCall.mk [3] (s_vec_Put [] [] T_uint8 0 0 brow_nil (Nat.zero_le _) v hvv) ⟨rfl, rfl, rfl⟩ ?_
  rintro _ _ ⟨o1, c1, y1, rfl, rfl, b1⟩
  refine VLoop.mk BX (fun y => [(0, .ptr 0 0), (3, .sl 3 y.o y.l.length y.c), (4, iv ((y.u + 1 : Nat) : Int))])
    (fun y => SST v ms c ++ [.heap hs, .arr y.xs T_uint8]) (fun y => Brow y.xs y.o y.c y.l ∧ y.u ≤ 3 ∧ y.l = vecB v 7 ++ preB ms y.u) (fun y => 3 - y.u) ⟨y1, o1, c1, vecB v 7, 0⟩ [0, 1, 2, 4]
    ⟨⟨b1, Nat.zero_le _, by simp [preB]⟩, rfl, rfl, rfl⟩ ?_
  rintro ⟨y2, o2, c2, l2, u⟩ ⟨b2, hu, hl2⟩ g
  simp only at b2 hu hl2
  have hpl := hI.preB_len hN u hu
  have hl2n : l2.length ≤ 100000000 := by rw [hl2, List.length_append]; omega
  refine And.intro (fun t1 => ?_) (fun t1 => ?_)
  · have t1 : ((u + 1 : Nat) : Int) ≤ 3 := of_decide_eq_true t1
    have hu3 : u + 1 ≤ 3 := by omega
    have hwu : IntKind.i64.wrap (((u + 1 : Nat) : Int) + 1) = ((u + 1 + 1 : Nat) : Int) := wrap64 (by omega)
    refine VCall.mk [0, 1] (s_Keys v ms c ((u + 1 : Nat) : Int) hI.m hI.km (by omega) (fun e he => by have := hI.key e he; omega)) ⟨rfl, rfl, rfl⟩ ?_
    rintro _ _ ⟨kx, ko, kc, rfl, rfl, hK⟩
    have hkl := keysT_len ms ((u + 1 : Nat) : Int)
    have hkB := hI.kB_len hN (k := ((u + 1 : Nat) : Int)) (by omega)
    have hmk : ∀ x, x ∈ keysT ms ((u + 1 : Nat) : Int) → ∃ y, MP.get ms (((u + 1 : Nat) : Int), x) = some y := fun x hx => keysT_get hx
    have hdef : kB ms ((u + 1 : Nat) : Int) = (keysT ms ((u + 1 : Nat) : Int)).flatMap (entB (lk ms) ((u + 1 : Nat) : Int)) := rfl
    generalize keysT ms ((u + 1 : Nat) : Int) = ks at hK hkl hkB hmk hdef
    refine VLoop.mk BX (fun y => [(0, .ptr 0 0), (3, .sl 3 y.o y.l.length y.c), (4, iv ((u + 1 : Nat) : Int)), (18, .sl 4 ko ks.length kc), (19, iv ks.length), (20, iv (y.u : Nat))])
      (fun y => SST v ms c ++ [.heap hs, .arr y.xs T_uint8, .arr kx T_string]) (fun y => Brow y.xs y.o y.c y.l ∧ y.u ≤ ks.length ∧ y.l = l2 ++ (ks.take y.u).flatMap (entB (lk ms) ((u + 1 : Nat) : Int))) (fun y => ks.length - y.u) ⟨y2, o2, c2, l2, 0⟩ [0, 1, 2, 3, 4]
      ⟨⟨b2, Nat.zero_le _, by simp⟩, rfl, rfl, rfl⟩ ?_
    rintro ⟨y3, o3, c3, l3, j⟩ ⟨b3, hj, hl3⟩ g2
    simp only at b3 hj hl3
    have hl3n : l3.length ≤ 200000000 := by rw [hl3, List.length_append]; have := hkB j; omega
    refine And.intro (fun t2 => ?_) (fun t2 => ?_)
    · have t2 : (j : Int) < (ks.length : Nat) := of_decide_eq_true t2
      have hjl : j < ks.length := by omega
      have hwj : IntKind.i64.wrap ((j : Int) + 1) = ((j + 1 : Nat) : Int) := wrap64 (by omega)
      have hroom : ko + ks.length * 1 ≤ kx.length := by have := hK.2.1; have := hK.1; omega
      have cj : kx[ko + (j : Int).toNat * 1]? = some (.string ks[j]) := by
        have := hK.at (fun _ => rfl) hjl (j := 0) (by decide)
        simpa using this
      obtain ⟨x, hx⟩ := hmk _ (List.getElem_mem hjl)
      have hft := flat_take (f := entB (lk ms) ((u + 1 : Nat) : Int)) hjl
      generalize ks[j] = key at cj hx hft
      obtain ⟨hat, hok, hkd, hsz⟩ := hI.get hx
      have hsz : key.size ≤ 1000 := hsz
      have hbl := AV.bytes_len hok hN
      have hE : entB (lk ms) ((u + 1 : Nat) : Int) key = zB ((u + 1 : Nat) : Int) ++ textB key ++ x.a.bytes := by unfold entB bytesAt lk; rw [hx]; rfl
      have z1 := zB_len (v := ((u + 1 : Nat) : Int)) (by omega)
      have z2 := textB_len (s := key) hsz
      refine And.intro ⟨Int.natCast_nonneg j, t2, hroom⟩ (Exists.intro _ (And.intro cj ?_))
      refine VCall.mk [3] (s_pack_Num l3 y3 T_uint8 o3 c3 b3 (by omega) ((u + 1 : Nat) : Int) (by omega)) ⟨rfl, rfl, rfl⟩ ?_
      rintro _ _ ⟨o4, c4, y4, rfl, rfl, b4⟩
      have b4 : Brow y4 o4 c4 (l3 ++ zB ((u + 1 : Nat) : Int)) := b4
      refine VCall.mk [5] (s_pack_Text (l3 ++ zB ((u + 1 : Nat) : Int)) key y4 T_uint8 o4 c4 b4 (by rw [List.length_append]; omega) hsz) ⟨rfl, rfl, rfl⟩ ?_
      rintro _ _ ⟨o5, c5, y5, rfl, rfl, b5⟩
      refine Exists.intro (.raw (((MP.get ms (((u + 1 : Nat) : Int), key)).map (·.v)).getD .nilIface)) (Exists.intro _ (Exists.intro _ (And.intro (lookP ms (((u + 1 : Nat) : Int), key)) (And.intro rfl ?_))))
      rw [hx]
      refine VCall.mk [2] (s_ownH hs x.fp x.v x.a N hok hN hat) ⟨rfl, rfl, rfl⟩ ?_
      rintro _ _ ⟨o6, c6, y6, rfl, rfl, b6⟩
      have hl5 : (l3 ++ zB ((u + 1 : Nat) : Int) ++ textB key).length ≤ 200002000 := by simp only [List.length_append]; omega
      refine And.intro ⟨⟨b5.1, by have := b5.2.1; simpa using this, rfl⟩, ⟨?_, ?_⟩, by omega⟩ ?_
      · rw [b6.take1]; simp
      · rw [b6.take1]; exact cellsOK_ints _
      intro zs' o' c' hz
      have b7 : Brow zs' o' c' (l3 ++ zB ((u + 1 : Nat) : Int) ++ textB key ++ x.a.bytes) := by
        refine ⟨?_, ?_, ?_⟩
        · have := hz.1; rw [List.length_append (bs := x.a.bytes)]; exact this
        · have := hz.2.1; simpa using this
        · have := hz.2.2
          rw [b6.take1, b5.take1, Nat.mul_one] at this
          rw [List.length_append (bs := x.a.bytes), List.map_append (l₂ := x.a.bytes)]
          exact this
      refine Exists.intro _ (And.intro hwj ?_)
      refine Exists.intro ⟨zs', o', c', l3 ++ zB ((u + 1 : Nat) : Int) ++ textB key ++ x.a.bytes, j + 1⟩ (Exists.intro [0, 1, 2, 8, 4] (And.intro ⟨⟨b7, hjl, ?_⟩, by simp only; omega⟩ ⟨?_, rfl, rfl⟩))
      · simp only
        rw [hft, hl3, hE]
        simp only [List.append_assoc]
      · simp only [List.length_append]; rfl
    · have hjl : j = ks.length := by have t2 := of_decide_eq_false t2; simp only at t2; omega
      subst hjl
      rw [List.take_length, ← hdef] at hl3
      refine Exists.intro _ (And.intro hwu ?_)
      refine Exists.intro ⟨y3, o3, c3, l3, u + 1⟩ (Exists.intro [0, 1, 2, 3] (And.intro ⟨⟨b3, hu3, ?_⟩, by simp only; omega⟩ ⟨rfl, rfl, rfl⟩))
      simp only
      rw [hl3, hl2, preB, List.append_assoc]
  · have hu3 : u = 3 := by have t1 := of_decide_eq_false t1; simp only at t1; omega
    subst hu3
    have e : l2 = stB v ms := hl2
    subst e
    exact VRet.mk [0, 1, 2, 3] (.sl 3 o2 (stB v ms).length c2) (SST v ms c ++ [.heap hs, .arr y2 T_uint8]) ⟨rfl, rfl, rfl⟩ ⟨o2, c2, y2, rfl, rfl, b2⟩
end Go.Proofs

namespace Go.Proofs
open Go Go.V Go.Lib
set_option maxRecDepth 100000
set_option linter.unusedVariables false

/-! ### Bytes as texts -/
def strOf (l : List Int) : ByteArray := ⟨(l.map fun n => UInt8.ofNat n.toNat).toArray⟩
theorem strOf_size (l : List Int) : (strOf l).size = l.length := by simp [strOf, ByteArray.size]
theorem strOf_cells {l : List Int} (h : ∀ b ∈ l, 0 ≤ b ∧ b < 256) : (strOf l).data.toList.map (fun b => Value.int .u8 b.toNat) = l.map (Value.int .u8) := by
  simp only [strOf, List.map_map]
  apply List.map_congr_left
  intro b hb
  have := h b hb
  show Value.int .u8 ((UInt8.ofNat b.toNat).toNat : Int) = _
  congr 1
  rw [UInt8.toNat_ofNat']
  omega
def Byt (l : List Int) : Prop := ∀ b, b ∈ l → 0 ≤ b ∧ b < 256
theorem Byt.app {l m : List Int} (h : Byt l) (h2 : Byt m) : Byt (l ++ m) := fun b hb => by
  rcases List.mem_append.1 hb with k | k
  · exact h b k
  · exact h2 b k
theorem Byt.flat {α : Type} {f : α → List Int} {l : List α} (h : ∀ a, a ∈ l → Byt (f a)) : Byt (l.flatMap f) := fun b hb => by
  obtain ⟨a, h1, h2⟩ := List.mem_flatMap.1 hb
  exact h a h1 b h2
theorem numB_byt (u : Nat) : Byt (Go.V.numB u) := by
  induction u using Nat.strongRecOn with
  | _ u ih =>
    intro b hb
    by_cases h : u < 128
    · rw [numB_lt h] at hb
      have hb := List.mem_singleton.1 hb
      omega
    · rw [numB_ge h] at hb
      rcases List.mem_cons.1 hb with k | k
      · omega
      · exact ih (u / 128) (by omega) b k
theorem textB_byt (s : ByteArray) : Byt (textB s) := Byt.app (numB_byt _) fun b hb => by
  obtain ⟨x, _, rfl⟩ := List.mem_map.1 hb
  have := x.toNat_lt
  omega
theorem vecB_byt (v : Nat → Int) : ∀ n, Byt (vecB v n)
  | 0 => fun b hb => by simp [vecB] at hb
  | n + 1 => (vecB_byt v n).app (numB_byt _)
theorem strOf_inj {l m : List Int} (hl : Byt l) (hm : Byt m) (h : strOf l = strOf m) : l = m := by
  have h1 := strOf_cells hl
  have h2 := strOf_cells hm
  rw [h, h2] at h1
  have : ∀ {l m : List Int}, m.map (Value.int .u8) = l.map (Value.int .u8) → l = m := by
    intro l
    induction l with
    | nil => intro m h; cases m with
      | nil => rfl
      | cons x m => simp at h
    | cons x l ih => intro m h; cases m with
      | nil => simp at h
      | cons y m =>
        simp only [List.map_cons, List.cons.injEq, Value.int.injEq, true_and] at h
        rw [h.1, ih h.2]
  exact this h1
theorem oneB_byt (ms : MS) (gs : GM) (t : List UInt8) : Byt (oneB ms gs t) := ((textB_byt _).app (numB_byt _)).app (Byt.flat fun d _ => (numB_byt _).app (numB_byt _))
theorem AV.bytes_byt (a : AV) : Byt a.bytes := by
  cases a with
  | set ms c gs c2 => exact (numB_byt _).app (Byt.flat fun t _ => oneB_byt ms gs t)
  | num u d => exact (vecB_byt _ _).app (vecB_byt _ _)
  | txt s =>
    show Byt (lstB s)
    unfold lstB
    split
    · exact ((((numB_byt _).app (numB_byt _)).app (numB_byt _)).app (numB_byt _)).app (textB_byt _)
    · exact numB_byt _
theorem entB_byt (f : PK → Option AV) (k : Int) (x : ByteArray) : Byt (entB f k x) := by
  refine ((numB_byt _).app (textB_byt _)).app ?_
  unfold bytesAt
  cases f (k, x) with
  | none => intro b hb; simp at hb
  | some a => exact a.bytes_byt
theorem preB_byt (ms : MPV) : ∀ u, Byt (preB ms u)
  | 0 => fun b hb => by simp [preB] at hb
  | u + 1 => (preB_byt ms u).app (Byt.flat fun x _ => entB_byt _ _ x)
theorem stB_byt (v : Nat → Int) (ms : MPV) : Byt (stB v ms) := (vecB_byt v 7).app (preB_byt ms 3)
theorem s_bytes_Equal (l m : List Int) (xs ys : List Value) (te te2 : TypeId) (o c o2 c2 : Nat) (hb : Brow xs o c l) (hb2 : Brow ys o2 c2 m) (hl : Byt l) (hm : Byt m) :
    Ctr Tryz.prog F_bytes_Equal [.sl 0 o l.length c, .sl 1 o2 m.length c2] [.arr xs te, .arr ys te2] (fun x H => x = bv (decide (l = m)) ∧ H = [.arr xs te, .arr ys te2]) := by
  refine i_bytes_Equal.spec follows ?_
  refine Exists.intro (strOf l) (And.intro ?_ ?_)
  · show some ((xs.drop o).take (l.length * 1), l.length) = some (_, _)
    rw [hb.take1, strOf_cells hl, strOf_size]
  refine Exists.intro (strOf m) (And.intro ?_ ?_)
  · show some ((ys.drop o2).take (m.length * 1), m.length) = some (_, _)
    rw [hb2.take1, strOf_cells hm, strOf_size]
  refine VRet.mk [0, 1] (bv ((strOf l).toList == (strOf m).toList)) [.arr xs te, .arr ys te2] ⟨rfl, rfl, rfl⟩ ⟨?_, rfl⟩
  rw [str_beq]
  by_cases h : l = m
  · subst h; simp
  · rw [decide_eq_false h, decide_eq_false fun k => h (strOf_inj hl hm k)]
/-! ### A state: made, asked -/
theorem s_StNew : Ctr Tryz.prog F_state_New [] [] (fun x H => x = .ptr 0 0 ∧ H = SST (fun _ => 0) [] 0) := by
  refine i_state_New.spec follows ?_
  exact VRet.mk [1, 0] (.ptr 0 0) (SST (fun _ => 0) [] 0) ⟨rfl, rfl, rfl⟩ ⟨rfl, rfl⟩
theorem s_Have (v : Nat → Int) (ms : MPV) (c : Nat) : Ctr Tryz.prog F_state_State_Have [.ptr 0 0] (SST v ms c) (fun x H => x = .agg (vcells v) ∧ H = SST v ms c) := by
  refine i_state_State_Have.spec follows ?_
  exact VRet.mk [0, 1] (.agg (vcells v)) (SST v ms c) ⟨rfl, rfl, rfl⟩ ⟨rfl, rfl⟩
theorem s_ShowW_S (h : Nat → Option Obj) (ms : MS) (c : Nat) (gs : GM) (c2 N : Nat) (hI : SI ms c gs c2 N) (hN : N ≤ 1000) : Ctr Tryz.prog F_value_Show [vS] (SO2 ms c gs c2 ++ [.heap h]) (fun x H => x = .raw (.string (AV.show (.set ms c gs c2))) ∧ H = SO2 ms c gs c2 ++ [.heap h]) := by
  have hml := hI.ml
  have hal := allT_len ms gs
  refine i_value_Show.spec follows ?_
  refine VCall.mk [0, 1, 2] (s_AsSet_S ms c gs c2) ⟨rfl, rfl, rfl⟩ ?_
  rintro _ _ ⟨rfl, rfl⟩
  refine And.intro (fun _ => ?_) (fun h => absurd h (by decide))
  refine VCall.mk [0, 1, 2] (s_All ms c gs c2 hI.m hI.km (by omega)) ⟨rfl, rfl, rfl⟩ ?_
  rintro _ _ ⟨xs, o, cp, rfl, rfl, hr⟩
  have hjl := join_len (allT ms gs) [44] 100 (fun x hx => hI.txt hx)
  have hj := join_ctr (P := Tryz.prog) rfl Tryz.laysJoin extraB (H := [.arr xs T_string]) (j := 0) (off := o) (cap := cp) (xs := xs) (e := T_string) rfl (allT ms gs) (by have := hr.2.2; simpa using this) (by have := hr.2.1; have := hr.1; omega) hr.1 (by omega) (ByteArray.mk #[44]) (by
    have e : (ByteArray.mk #[44]).data.toList = [44] := rfl
    rw [e]; simp only [List.length_singleton] at hjl; have := Nat.mul_le_mul_right 101 (show (allT ms gs).length ≤ 1000 by omega); omega)
  refine VCall.mk [4] hj ⟨rfl, rfl, rfl⟩ ?_
  rintro _ _ ⟨rfl, rfl⟩
  exact VRet.mk [0, 1, 2, 3] (.raw (.string (AV.show (.set ms c gs c2)))) (SO2 ms c gs c2 ++ [.heap h]) ⟨rfl, rfl, rfl⟩ ⟨rfl, rfl⟩
theorem s_ShowW_T (h : Nat → Option Obj) (s : LV) : Ctr Tryz.prog F_value_Show [vT] (LO s ++ [.heap h]) (fun x H => x = .raw (.string (AV.show (.txt s))) ∧ H = LO s ++ [.heap h]) := by
  refine i_value_Show.spec follows ?_
  refine VCall.mk [0] (s_AsSet_T s) ⟨rfl, rfl, rfl⟩ ?_
  rintro _ _ ⟨rfl, rfl⟩
  refine And.intro (fun h => absurd h (by decide)) (fun _ => ?_)
  refine VCall.mk [0] (s_AsNumber_T s) ⟨rfl, rfl, rfl⟩ ?_
  rintro _ _ ⟨rfl, rfl⟩
  refine And.intro (fun h => absurd h (by decide)) (fun _ => ?_)
  refine VCall.mk [0] (s_AsText_T s) ⟨rfl, rfl, rfl⟩ ?_
  rintro _ _ ⟨rfl, rfl⟩
  refine And.intro (fun _ => ?_) (fun h => absurd h (by decide))
  refine VCall.mk [0] (s_LValue s) ⟨rfl, rfl, rfl⟩ ?_
  rintro _ _ ⟨rfl, rfl⟩
  exact VRet.mk [0, 1] (.raw (.string (AV.show (.txt s)))) (LO s ++ [.heap h]) ⟨rfl, rfl, rfl⟩ ⟨rfl, rfl⟩
theorem s_ShowW (h : Nat → Option Obj) (ht : Ten h) (a : AV) (N : Nat) (ha : a.ok N) (hN : N ≤ 1000) : Ctr Tryz.prog F_value_Show [a.sym] (a.blk ++ [.heap h]) (fun x H => x = .raw (.string a.show) ∧ H = a.blk ++ [.heap h]) := by
  cases a with
  | set ms c gs c2 => exact s_ShowW_S h ms c gs c2 N ha hN
  | num u d => exact s_Show_N h ht u d ha
  | txt l => exact s_ShowW_T h l
theorem s_ShowVH (h : Nat → Option Obj) (ht : Ten h) (hs : Nat → Option Obj) (fp : List Nat) (v : Value) (a : AV) (N : Nat) (ha : a.ok N) (hN : N ≤ 1000) (hv : ValAt hs fp v a) :
    Ctr Tryz.prog F_value_Show [.raw v] [.heap hs, .heap h] (fun x H => x = .raw (.string a.show) ∧ H = [.heap hs, .heap h]) := by
  obtain ⟨b, h0, rfl⟩ := hv.at'
  refine ctr_open (G := [.heap h]) (as' := [a.sym]) (Ho := a.blk) (Post := fun x H => x = .raw (.string a.show) ∧ H = a.blk ++ [.heap h]) (s_ShowW h ht a N ha hN) fp hs hv.len hv.nd a.cm a.okb (by simp [plainO]) hv.obj ?_ ?_ ?_
  · intro ρ ρ' h1 _
    simp only [valL]
    rw [a.val_sym h0 ρ h1]
    simp [V.val]
  · intro _
    simp only [belowL, Bool.and_eq_true]
    exact ⟨a.bel_sym _ (by simp), trivial⟩
  · rintro v0 H0 ⟨rfl, rfl⟩
    exact ⟨a.blk, [.heap h], .raw (.string a.show), rfl, rfl, AV.cm _, AV.okb _, by simp [plainO], fun _ _ _ _ => by simp [V.val], fun _ => rfl, rfl, by rw [updA_same _ _ _ _ hv.obj]⟩
def showF (f : PK → Option AV) (p : PK) : ByteArray := ((f p).map AV.show).getD (ByteArray.mk #[])
theorem s_StShow (h : Nat → Option Obj) (ht : Ten h) (hs : Nat → Option Obj) (v : Nat → Int) (ms : MPV) (c N : Nat) (hI : StI hs v ms c N) (hN : N ≤ 1000) (k : Int) (key : ByteArray) :
    Ctr Tryz.prog F_state_State_Show [.ptr 0 0, iv k, .raw (.string key)] (SST v ms c ++ [.heap hs, .heap h]) (fun x H => x = .raw (.string (showF (lk ms) (k, key))) ∧ H = SST v ms c ++ [.heap hs, .heap h]) := by
  refine i_state_State_Show.spec follows ?_
  refine Exists.intro (.raw (((MP.get ms (k, key)).map (·.v)).getD .nilIface)) (Exists.intro _ (Exists.intro _ (And.intro (lookP ms (k, key)) (And.intro rfl ?_))))
  cases hx : MP.get ms (k, key) with
  | none =>
    refine VCall.mk [] s_Show_0 ⟨rfl, rfl, rfl⟩ ?_
    rintro _ _ ⟨rfl, rfl⟩
    refine VRet.mk [0, 1, 2, 3] (.raw (.string (ByteArray.mk #[]))) (SST v ms c ++ [.heap hs, .heap h]) ⟨rfl, rfl, rfl⟩ ⟨?_, rfl⟩
    unfold showF lk; rw [hx]; rfl
  | some x =>
    obtain ⟨hat, hok, _, _⟩ := hI.get hx
    refine VCall.mk [2, 3] (s_ShowVH h ht hs x.fp x.v x.a N hok hN hat) ⟨rfl, rfl, rfl⟩ ?_
    rintro _ _ ⟨rfl, rfl⟩
    refine VRet.mk [0, 1, 2, 3] (.raw (.string x.a.show)) (SST v ms c ++ [.heap hs, .heap h]) ⟨rfl, rfl, rfl⟩ ⟨?_, rfl⟩
    unfold showF lk; rw [hx]; rfl
/-- Are two rows of texts alike? -/
theorem s_texts (d e : List ByteArray) (xs ys : List Value) (te te2 : TypeId) (o c o2 c2 : Nat) (hr : RowG bcl 1 xs o c d) (hr2 : RowG bcl 1 ys o2 c2 e) (hd : d.length ≤ 1000000) :
    Ctr Tryz.prog F_rostrumlaw14_texts [.sl 0 o d.length c, .sl 1 o2 e.length c2] [.arr xs te, .arr ys te2] (fun x H => x = bv (decide (d = e)) ∧ H = [.arr xs te, .arr ys te2]) := by
  refine i_rostrumlaw14_texts.spec follows ?_
  refine And.intro (fun h => ?_) (fun h => ?_)
  · have h : ¬ (d.length : Int) = (e.length : Int) := by simpa using h
    refine VRet.mk [0, 1] (bv false) [.arr xs te, .arr ys te2] ⟨rfl, rfl, rfl⟩ ⟨?_, rfl⟩
    rw [decide_eq_false fun k => h (by rw [k])]
  have h : (d.length : Int) = (e.length : Int) := by simpa using h
  have hl : d.length = e.length := by omega
  have hra : o + d.length * 1 ≤ xs.length := by have := hr.1; have := hr.2.1; omega
  have hrb : o2 + e.length * 1 ≤ ys.length := by have := hr2.1; have := hr2.2.1; omega
  refine VLoop.mk Nat (fun i => [(0, .sl 0 o d.length c), (1, .sl 1 o2 e.length c2), (5, iv i)]) (fun _ => [.arr xs te, .arr ys te2]) (fun i => i ≤ d.length ∧ d.take i = e.take i) (fun i => d.length - i) 0 [0, 1] ⟨⟨Nat.zero_le _, rfl⟩, rfl, rfl, rfl⟩ ?_
  rintro i ⟨hi, he⟩ g
  refine And.intro (fun h1 => ?_) (fun h1 => ?_)
  · have h1 : (i : Int) < (d.length : Nat) := of_decide_eq_true h1
    have hil : i < d.length := by omega
    have hie : i < e.length := by omega
    have hw : IntKind.i64.wrap ((i : Int) + 1) = ((i + 1 : Nat) : Int) := wrap64 (by omega)
    have gx : xs[o + (i : Int).toNat * 1]? = some (.string d[i]) := by
      have := hr.at (fun _ => rfl) hil (j := 0) (by decide); simpa using this
    have gy : ys[o2 + (i : Int).toNat * 1]? = some (.string e[i]) := by
      have := hr2.at (fun _ => rfl) hie (j := 0) (by decide); simpa using this
    refine And.intro ⟨Int.natCast_nonneg i, h1, hra⟩ (Exists.intro _ (And.intro gx ?_))
    refine And.intro ⟨Int.natCast_nonneg i, by omega, hrb⟩ (Exists.intro _ (And.intro gy ?_))
    refine And.intro (fun h2 => ?_) (fun h2 => ?_)
    · have h2 : (!(d[i].toList == e[i].toList)) = true := h2
      rw [str_beq] at h2
      have h2 : ¬ d[i] = e[i] := by simpa using h2
      refine VRet.mk [0, 1] (bv false) [.arr xs te, .arr ys te2] ⟨rfl, rfl, rfl⟩ ⟨?_, rfl⟩
      rw [decide_eq_false fun k => h2 (by subst k; rfl)]
    · have h2 : (!(d[i].toList == e[i].toList)) = false := h2
      rw [str_beq] at h2
      have h2 : d[i] = e[i] := by simpa using h2
      refine Exists.intro _ (And.intro hw ?_)
      refine Exists.intro (i + 1) (Exists.intro [0, 1] (And.intro ⟨⟨hil, ?_⟩, by omega⟩ ⟨rfl, rfl, rfl⟩))
      rw [← List.take_append_getElem hil, ← List.take_append_getElem hie, he, h2]
  · have h1 : ¬ (i : Int) < (d.length : Nat) := of_decide_eq_false h1
    have hil : i = d.length := by omega
    refine VRet.mk [0, 1] (bv true) [.arr xs te, .arr ys te2] ⟨rfl, rfl, rfl⟩ ⟨?_, rfl⟩
    rw [List.take_of_length_le (by omega), List.take_of_length_le (by omega)] at he
    rw [decide_eq_true he]
end Go.Proofs

