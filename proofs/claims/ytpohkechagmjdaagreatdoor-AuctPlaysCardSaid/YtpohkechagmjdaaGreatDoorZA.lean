/- Part of the proof that the statement named in the last file holds: lemmas of the prover's own. No conditions. -/
import Derived.Test.YtpohkechagmjdaaGreatDoorDC
namespace Go.Proofs
open Go Go.V Go.Lib
set_option maxRecDepth 100000
set_option linter.unusedVariables false

/-! ### The document's own clocks and dots -/
theorem s_ref_May (r n : Int) : Ctr Tryz.prog F_rostrumref7_May [.agg (dcells r n)] [] (fun v H => v = bv (isDot r n) ∧ H = []) := by
  refine i_rostrumref7_May.spec follows ?_
  refine And.intro (fun h1 => ?_) (fun h1 => ?_)
  · refine And.intro (fun h2 => ?_) (fun h2 => ?_)
    · refine And.intro (fun h3 => ?_) (fun h3 => ?_)
      · refine VRet.mk [] (bv _) [] ⟨rfl, rfl, rfl⟩ ⟨?_, rfl⟩
        show bv _ = bv _
        have h1 := of_decide_eq_true h1; have h2 := of_decide_eq_true h2; have h3 := of_decide_eq_true h3
        simp [isDot, isRep, h1, h2, h3]
      · refine VRet.mk [] (bv _) [] ⟨rfl, rfl, rfl⟩ ⟨?_, rfl⟩
        show bv _ = bv _
        have h3 := of_decide_eq_false h3
        simp [isDot, isRep, h3]
    · refine VRet.mk [] (bv _) [] ⟨rfl, rfl, rfl⟩ ⟨?_, rfl⟩
      show bv _ = bv _
      have h2 := of_decide_eq_false h2
      simp [isDot, isRep, h2]
  · refine VRet.mk [] (bv _) [] ⟨rfl, rfl, rfl⟩ ⟨?_, rfl⟩
    show bv _ = bv _
    have h1 := of_decide_eq_false h1
    simp [isDot, isRep, h1]
theorem s_ref_Has (v : Nat → Int) (r n : Int) : Ctr Tryz.prog F_rostrumref7_Has [.agg (vcells v), .agg (dcells r n)] [] (fun x H => x = bv (has v r n) ∧ H = []) := by
  refine i_rostrumref7_Has.spec follows ?_
  refine And.intro (fun h1 => ?_) (fun h1 => ?_)
  · refine And.intro (fun h2 => ?_) (fun h2 => ?_)
    · have hr : 0 ≤ r ∧ r < 7 := ⟨of_decide_eq_true h1, of_decide_eq_true h2⟩
      refine And.intro (fun h3 => ?_) (fun h3 => ?_)
      · refine And.intro hr (Exists.intro _ (And.intro (vcells_get' v hr []) ?_))
        refine VRet.mk [] (bv _) [] ⟨rfl, rfl, rfl⟩ ⟨?_, rfl⟩
        show bv _ = bv _
        have h3 := of_decide_eq_true h3
        simp [has, isRep, hr, h3]
      · refine VRet.mk [] (bv _) [] ⟨rfl, rfl, rfl⟩ ⟨?_, rfl⟩
        show bv _ = bv _
        have h3 := of_decide_eq_false h3
        simp [has, isRep, h3]
    · refine VRet.mk [] (bv _) [] ⟨rfl, rfl, rfl⟩ ⟨?_, rfl⟩
      show bv _ = bv _
      have h2 := of_decide_eq_false h2
      simp [has, isRep, h2]
  · refine VRet.mk [] (bv _) [] ⟨rfl, rfl, rfl⟩ ⟨?_, rfl⟩
    show bv _ = bv _
    have h1 := of_decide_eq_false h1
    simp [has, isRep, h1]
theorem s_ref_Le (v w : Nat → Int) : Ctr Tryz.prog F_rostrumref7_Le [.agg (vcells v), .agg (vcells w)] [] (fun x H => x = bv (leB v w) ∧ H = []) := by
  refine i_rostrumref7_Le.spec follows ?_
  refine VLoop.mk Nat (fun i => [(2, .ptr 0 0), (3, .ptr 1 0), (5, iv i)]) (fun i => [.cells (vcells v) T_rostrumref7_Vec, .cells (vcells w) T_rostrumref7_Vec]) (fun i => i ≤ 7 ∧ ∀ j, j < i → v j ≤ w j) (fun i => 7 - i) 0 [0, 1]
    ⟨⟨by omega, fun j hj => by omega⟩, rfl, rfl, rfl⟩ ?_
  rintro i ⟨hi, hd⟩ g
  refine And.intro (fun h => ?_) (fun h => ?_)
  · have h := of_decide_eq_true h
    have hi7 : 0 ≤ (i : Int) ∧ (i : Int) < 7 := ⟨by omega, h⟩
    have hw : IntKind.i64.wrap ((i : Int) + 1) = ((i + 1 : Nat) : Int) := wrap64 (by omega)
    refine And.intro hi7 (Exists.intro _ (And.intro (vcells_get' v hi7 []) ?_))
    refine And.intro hi7 (Exists.intro _ (And.intro (vcells_get' w hi7 []) ?_))
    refine And.intro (fun h2 => ?_) (fun h2 => ?_)
    · have h2 := of_decide_eq_true h2
      refine VRet.mk [] (bv false) [] ⟨rfl, rfl, rfl⟩ ⟨?_, rfl⟩
      have : leB v w = false := by
        rw [Bool.eq_false_iff, Ne, leB_iff]
        intro hh
        have := hh i (by omega)
        rw [Int.toNat_natCast] at h2
        omega
      rw [this]
    · have h2 := of_decide_eq_false h2
      refine Exists.intro _ (And.intro hw ?_)
      refine Exists.intro (i + 1) (Exists.intro [0, 1] (And.intro ⟨⟨by omega, fun j hj => ?_⟩, by omega⟩ ⟨rfl, rfl, rfl⟩))
      rw [Int.toNat_natCast] at h2
      by_cases e : j = i
      · subst e; omega
      · exact hd j (by omega)
  · have h := of_decide_eq_false h
    have h7 : i = 7 := by omega
    subst h7
    refine VRet.mk [] (bv true) [] ⟨rfl, rfl, rfl⟩ ⟨?_, rfl⟩
    rw [leB_iff.2 hd]
theorem s_ref_Vgood (v : Nat → Int) : Ctr Tryz.prog F_rostrumref7_Good [.agg (vcells v)] [] (fun x H => x = bv (vgoodB v) ∧ H = []) := by
  refine i_rostrumref7_Good.spec follows ?_
  refine VLoop.mk Nat (fun i => [(1, .ptr 0 0), (3, iv i)]) (fun i => [.cells (vcells v) T_rostrumref7_Vec]) (fun i => i ≤ 7 ∧ ∀ j, j < i → 0 ≤ v j ∧ v j ≤ 1099511627776) (fun i => 7 - i) 0 [0]
    ⟨⟨by omega, fun j hj => by omega⟩, rfl, rfl, rfl⟩ ?_
  rintro i ⟨hi, hd⟩ g
  have bad : ∀ k, k < 7 → ¬ (0 ≤ v k ∧ v k ≤ 1099511627776) → vgoodB v = false := by
    intro k hk hn
    rw [Bool.eq_false_iff, Ne, vgoodB_iff]
    exact fun hh => hn (hh k hk)
  refine And.intro (fun h => ?_) (fun h => ?_)
  · have h := of_decide_eq_true h
    have hi7 : 0 ≤ (i : Int) ∧ (i : Int) < 7 := ⟨by omega, h⟩
    have hw : IntKind.i64.wrap ((i : Int) + 1) = ((i + 1 : Nat) : Int) := wrap64 (by omega)
    refine And.intro hi7 (Exists.intro _ (And.intro (vcells_get' v hi7 []) ?_))
    refine And.intro (fun h1 => ?_) (fun h1 => ?_)
    · have h1 := of_decide_eq_false h1
      refine And.intro hi7 (Exists.intro _ (And.intro (vcells_get' v hi7 []) ?_))
      refine And.intro (fun h2 => ?_) (fun h2 => ?_)
      · have h2 := of_decide_eq_true h2
        refine VRet.mk [] (bv false) [] ⟨rfl, rfl, rfl⟩ ⟨?_, rfl⟩
        rw [Int.toNat_natCast] at h2
        rw [bad i (by omega) (by omega)]
      · have h2 := of_decide_eq_false h2
        refine Exists.intro _ (And.intro hw ?_)
        refine Exists.intro (i + 1) (Exists.intro [0] (And.intro ⟨⟨by omega, fun j hj => ?_⟩, by omega⟩ ⟨rfl, rfl, rfl⟩))
        by_cases hji : j = i
        · subst hji; rw [Int.toNat_natCast] at h1 h2; omega
        · exact hd j (by omega)
    · have h1 := of_decide_eq_true h1
      refine VRet.mk [] (bv false) [] ⟨rfl, rfl, rfl⟩ ⟨?_, rfl⟩
      rw [Int.toNat_natCast] at h1
      rw [bad i (by omega) (by omega)]
  · have h := of_decide_eq_false h
    have h7 : i = 7 := by omega
    subst h7
    refine VRet.mk [] (bv true) [] ⟨rfl, rfl, rfl⟩ ⟨?_, rfl⟩
    rw [vgoodB_iff.2 hd]
def ltB (a b c d : Int) : Bool := decide (a < c) || (decide (a = c) && decide (b < d))
theorem s_ref_Less (a b c d : Int) : Ctr Tryz.prog F_rostrumref7_Less [.agg (dcells a b), .agg (dcells c d)] [] (fun x H => x = bv (ltB a b c d) ∧ H = []) := by
  refine i_rostrumref7_Less.spec follows ?_
  refine And.intro (fun h1 => ?_) (fun h1 => ?_)
  · refine And.intro (fun h2 => ?_) (fun h2 => ?_)
    · refine VRet.mk [] (bv _) [] ⟨rfl, rfl, rfl⟩ ⟨?_, rfl⟩
      show bv _ = bv _
      rw [ltB, show decide (a < c) = false from h1, show decide (a = c) = true from h2]; rfl
    · refine VRet.mk [] (bv _) [] ⟨rfl, rfl, rfl⟩ ⟨?_, rfl⟩
      show bv _ = bv _
      rw [ltB, show decide (a < c) = false from h1, show decide (a = c) = false from h2]; rfl
  · refine VRet.mk [] (bv _) [] ⟨rfl, rfl, rfl⟩ ⟨?_, rfl⟩
    show bv _ = bv _
    rw [ltB, show decide (a < c) = true from h1]; rfl
end Go.Proofs

namespace Go.Proofs
open Go Go.V Go.Lib
set_option maxRecDepth 100000
set_option linter.unusedVariables false

/-! ### The document's own house -/
structure RH where
  v : Nat → Int
  L : List ST
  R : List ST
  us : List ByteArray
  sp : List ByteArray
  su : List Int
  cl : List ((Int × Int) × OC)
/-- Where a row lies. -/
structure Rw where
  xs : List Value
  o : Nat
  c : Nat
structure RQ where
  l : Rw
  r : Rw
  u : Rw
  p : Rw
  s : Rw
  e : Rw
def bcl (t : ByteArray) : List Value := [.string t]
def ncl (n : Int) : List Value := [.int .i64 n]
def ecl (e : (Int × Int) × OC) : List Value := [.int .i64 e.1.1, .int .i64 e.1.2, .int .i64 e.2.br, .int .i64 e.2.bn, .string e.2.user, .int .i64 e.2.amount]
abbrev hoR (w : RH) (q : RQ) : List SO := [.cells (vcells w.v ++ [.sl 1 q.l.o w.L.length q.l.c, .sl 2 q.r.o w.R.length q.r.c, .sl 3 q.u.o w.us.length q.u.c, .sl 4 q.p.o w.sp.length q.p.c, .sl 5 q.s.o w.su.length q.s.c, .sl 6 q.e.o w.cl.length q.e.c]) T_rostrumref24_House,
  .arr q.l.xs T_rostrumref24_Step, .arr q.r.xs T_rostrumref24_Step, .arr q.u.xs T_string, .arr q.p.xs T_string, .arr q.s.xs T_int64, .arr q.e.xs T_rostrumref24_outcome]
structure RK (w : RH) (q : RQ) : Prop where
  l : RowG stcl 19 q.l.xs q.l.o q.l.c w.L
  r : RowG stcl 19 q.r.xs q.r.o q.r.c w.R
  u : RowG bcl 1 q.u.xs q.u.o q.u.c w.us
  p : RowG bcl 1 q.p.xs q.p.o q.p.c w.sp
  s : RowG ncl 1 q.s.xs q.s.o q.s.c w.su
  e : RowG ecl 6 q.e.xs q.e.o q.e.c w.cl
  ll : w.L.length ≤ 1000
  rl : w.R.length ≤ 1000
  ul : w.us.length ≤ 1000
  pl : w.sp.length ≤ 1000
  sl : w.su.length = w.sp.length
  el : w.cl.length ≤ 1000
theorem RowG.room {α : Type} {cl : α → List Value} {k : Nat} {xs : List Value} {o c : Nat} {d : List α} (h : RowG cl k xs o c d) : o + d.length * k ≤ xs.length := by
  have := h.2.1
  have := Nat.mul_le_mul_right k h.1
  omega
def regF (w : RH) (f : ByteArray) : Bool := w.us.any fun t => decide (t = f)
theorem s_Registered (h : Nat → Option Obj) (hc : CaseH h) (w : RH) (q : RQ) (hk : RK w q) (u : ByteArray) (hu : u.size ≤ 100000000) :
    Ctr Tryz.prog F_rostrumref24_House_Registered [.ptr 0 0, .raw (.string u)] (hoR w q ++ [.heap h]) (fun r H => r = bv (regF w (foldB u)) ∧ H = hoR w q ++ [.heap h]) := by
  have fin : ∀ (b : Bool) (l : List SO), b = regF w (foldB u) → VRet 8 (bv b) (hoR w q ++ .heap h :: l) (fun r H => r = bv (regF w (foldB u)) ∧ H = hoR w q ++ [.heap h]) := by
    rintro b l rfl
    exact VRet.mk [0, 1, 2, 3, 4, 5, 6, 7] _ (hoR w q ++ [.heap h]) ⟨rfl, rfl, rfl⟩ ⟨rfl, rfl⟩
  refine i_rostrumref24_House_Registered.spec follows ?_
  refine VCall.mk [7] (s_ref_Fold h hc u hu) ⟨rfl, rfl, rfl⟩ ?_
  rintro _ _ ⟨rfl, rfl⟩
  refine VLoop.mk Nat (fun i => [(0, .ptr 0 0), (5, .raw (.string (foldB u))), (6, iv i)]) (fun _ => hoR w q ++ [.heap h]) (fun i => i ≤ w.us.length ∧ ∀ k (hk : k < w.us.length), k < i → w.us[k] ≠ foldB u) (fun i => w.us.length - i) 0 [0, 1, 2, 3, 4, 5, 6, 7]
    ⟨⟨Nat.zero_le _, fun k _ hk => absurd hk (Nat.not_lt_zero k)⟩, rfl, rfl, rfl⟩ ?_
  rintro i ⟨hi, hno⟩ g
  have hul := hk.ul
  refine And.intro (fun t1 => ?_) (fun t1 => ?_)
  · have t1 : (i : Int) < (w.us.length : Nat) := of_decide_eq_true t1
    have hil : i < w.us.length := by omega
    have hwi : IntKind.i64.wrap ((i : Int) + 1) = ((i + 1 : Nat) : Int) := wrap64 (by omega)
    have hx := RowG.one hk.u (fun _ => rfl) hil
    refine And.intro ⟨Int.natCast_nonneg i, t1, (RowG.room hk.u)⟩ (Exists.intro _ (And.intro (by rw [Int.toNat_natCast]; exact hx) ?_))
    refine And.intro (fun t2 => ?_) (fun t2 => ?_)
    · rw [strB] at t2
      have t2 : w.us[i] = foldB u := of_decide_eq_true t2
      exact fin true _ (List.any_eq_true.2 ⟨_, List.getElem_mem hil, decide_eq_true t2⟩).symm
    · rw [strB] at t2
      have t2 : ¬ w.us[i] = foldB u := of_decide_eq_false t2
      refine Exists.intro _ (And.intro hwi ?_)
      refine Exists.intro (i + 1) (Exists.intro [0, 1, 2, 3, 4, 5, 6, 7] (And.intro ⟨⟨hil, fun k hkl hk1 => ?_⟩, by omega⟩ ⟨rfl, rfl, rfl⟩))
      by_cases e : k = i
      · subst e; exact t2
      · exact hno k hkl (by omega)
  · have hil : i = w.us.length := by have t1 := of_decide_eq_false t1; omega
    refine fin false _ (Bool.eq_false_iff.2 fun hm => ?_).symm
    obtain ⟨t, ht, he⟩ := List.any_eq_true.1 hm
    obtain ⟨k, hkl, rfl⟩ := List.mem_iff_getElem.1 ht
    exact hno k hkl (by omega) (of_decide_eq_true he)
end Go.Proofs

namespace Go.Proofs
open Go Go.V Go.Lib
set_option maxRecDepth 100000
set_option linter.unusedVariables false

theorem cut_sub {xs : List Value} {o n : Nat} {l : List Value} (h : V.cut xs o n = some l) (j k : Nat) (hk : j + k ≤ n) : V.cut xs (o + j) k = some ((l.drop j).take k) := by
  obtain ⟨h1, h2⟩ := cut_spec h
  by_cases h0 : k = 0
  · subst h0
    simp only [List.take_zero]
    cases xs <;> cases (o + j) <;> rfl
  · have hlen : o + j + k ≤ xs.length := by
      have h3 := h2 (j + k - 1) (by omega)
      have h4 : j + k - 1 < l.length := by omega
      rw [List.getElem?_eq_getElem h4] at h3
      have := (List.getElem?_eq_some_iff.1 h3.symm).1
      omega
    rw [cut_take xs (o + j) k hlen]
    congr 1
    apply List.ext_getElem?
    intro i
    by_cases hi : i < k
    · rw [List.getElem?_take_of_lt hi, List.getElem?_drop, List.getElem?_take_of_lt hi, List.getElem?_drop, h2 (j + i) (by omega)]
      congr 1; omega
    · rw [List.getElem?_eq_none (by simp; omega), List.getElem?_eq_none (by simp; omega)]

set_option maxHeartbeats 2000000 in
theorem find_at {α : Type} {p : α → Bool} : ∀ {l : List α} {i : Nat} (hi : i < l.length), (∀ k (hk : k < l.length), k < i → p l[k] = false) → p l[i] = true → l.find? p = some l[i]
  | a :: l, 0, _, _, h => by simp only [List.getElem_cons_zero] at h ⊢; simp [h]
  | a :: l, i + 1, hi, h0, h => by
    have ha : p a = false := h0 0 (by simp) (by omega)
    rw [List.find?_cons, ha]
    simp only [List.getElem_cons_succ] at h ⊢
    exact find_at (by simpa using hi) (fun k hk hki => h0 (k + 1) (by simp; omega) (by omega)) h
theorem find_no {α : Type} {p : α → Bool} {l : List α} (h : ∀ k (hk : k < l.length), p l[k] = false) : l.find? p = none := by
  rw [List.find?_eq_none]
  intro x hx
  obtain ⟨k, hk, rfl⟩ := List.mem_iff_getElem.1 hx
  simp [h k hk]
def isD (d : Int × Int) (s : ST) : Bool := decide (s.rep = d.1) && decide (s.n = d.2)
def findR (w : RH) (k : Int) (d : Int × Int) : Option ST := w.L.find? fun s => isD d s && decide (s.kind = k)
def winR (w : RH) (d : Int × Int) : Option OC := (w.cl.find? fun e => decide (e.1.1 = d.1) && decide (e.1.2 = d.2)).map (·.2)
theorem s_find (w : RH) (q : RQ) (hk : RK w q) (kd : Int) (d : Int × Int) :
    Ctr Tryz.prog F_rostrumref24_House_find [.ptr 0 0, iv kd, .agg (dcells d.1 d.2)] (hoR w q) (fun r H => r = .tup [.agg (stcells ((findR w kd d).getD zeroT')), bv (findR w kd d).isSome] ∧ H = hoR w q) := by
  have fin : ∀ (o : Option ST) (l : List SO), o = findR w kd d → VRet 7 (.tup [.agg (stcells (o.getD zeroT')), bv o.isSome]) (hoR w q ++ l) (fun r H => r = .tup [.agg (stcells ((findR w kd d).getD zeroT')), bv (findR w kd d).isSome] ∧ H = hoR w q) := by
    rintro o l rfl
    exact VRet.mk [0, 1, 2, 3, 4, 5, 6] _ (hoR w q) ⟨rfl, rfl, rfl⟩ ⟨rfl, rfl⟩
  refine i_rostrumref24_House_find.spec follows ?_
  refine VLoop.mk Nat (fun i => [(0, .ptr 0 0), (1, iv kd), (5, .ptr 7 0), (6, .ptr 8 0), (8, iv i)]) (fun _ => hoR w q ++ [.cells (dcells d.1 d.2) T_api_Dot, .cells (stcells zeroT') T_rostrumref24_Step]) (fun i => i ≤ w.L.length ∧ ∀ k (hk : k < w.L.length), k < i → (isD d w.L[k] && decide (w.L[k].kind = kd)) = false) (fun i => w.L.length - i) 0 [0, 1, 2, 3, 4, 5, 6, 7, 8]
    ⟨⟨Nat.zero_le _, fun k _ hk => absurd hk (Nat.not_lt_zero k)⟩, rfl, rfl, rfl⟩ ?_
  rintro i ⟨hi, hno⟩ g
  have hul := hk.ll
  refine And.intro (fun t1 => ?_) (fun t1 => ?_)
  · have t1 : (i : Int) < (w.L.length : Nat) := of_decide_eq_true t1
    have hil : i < w.L.length := by omega
    have hwi : IntKind.i64.wrap ((i : Int) + 1) = ((i + 1 : Nat) : Int) := wrap64 (by omega)
    have hx := hk.l.cut (fun _ => rfl) hil
    have hx2 := cut_sub hx 1 2 (by omega)
    have h0 := hk.l.at (fun _ => rfl) hil (j := 0) (by omega)
    have next : (isD d w.L[i] && decide (w.L[i].kind = kd)) = false → (i + 1 ≤ w.L.length ∧ ∀ k (hk : k < w.L.length), k < i + 1 → (isD d w.L[k] && decide (w.L[k].kind = kd)) = false) := fun hq => ⟨hil, fun k hkl hk1 => by
      by_cases e : k = i
      · subst e; exact hq
      · exact hno k hkl (by omega)⟩
    refine And.intro ⟨Int.natCast_nonneg i, t1, (RowG.room hk.l)⟩ (Exists.intro _ (And.intro (by rw [Int.toNat_natCast]; exact hx2) ?_))
    refine And.intro (fun t2 => ?_) (fun t2 => ?_)
    · have t2 : isD d w.L[i] = true := t2
      refine And.intro ⟨Int.natCast_nonneg i, t1, RowG.room hk.l⟩ (Exists.intro _ (And.intro (by rw [Int.toNat_natCast]; exact h0) ?_))
      refine And.intro (fun t3 => ?_) (fun t3 => ?_)
      · have t3 : decide (w.L[i].kind = kd) = true := t3
        refine And.intro ⟨Int.natCast_nonneg i, t1, RowG.room hk.l⟩ (Exists.intro _ (And.intro (by rw [Int.toNat_natCast]; exact hx) ?_))
        exact fin (some w.L[i]) _ (find_at hil hno (by rw [t2, t3]; rfl)).symm
      · have t3 : decide (w.L[i].kind = kd) = false := t3
        refine Exists.intro _ (And.intro hwi ?_)
        exact Exists.intro (i + 1) (Exists.intro [0, 1, 2, 3, 4, 5, 6, 7, 8] (And.intro ⟨next (by rw [t2, t3]; rfl), by omega⟩ ⟨rfl, rfl, rfl⟩))
    · have t2 : isD d w.L[i] = false := t2
      refine Exists.intro _ (And.intro hwi ?_)
      exact Exists.intro (i + 1) (Exists.intro [0, 1, 2, 3, 4, 5, 6, 7, 8] (And.intro ⟨next (by rw [t2]; rfl), by omega⟩ ⟨rfl, rfl, rfl⟩))
  · have hil : i = w.L.length := by have t1 := of_decide_eq_false t1; omega
    exact fin none _ (find_no fun k hk => hno k hk (by omega)).symm
/-! ### Outcomes -/
def wonV : Option OC → SV
  | none => .tup [.agg (dcells 0 0), .raw (.string es), iv 0, bv false]
  | some o => .tup [.agg (dcells o.br o.bn), .raw (.string o.user), iv o.amount, bv true]
theorem s_refWinner (w : RH) (q : RQ) (hk : RK w q) (d : Int × Int) :
    Ctr Tryz.prog F_rostrumref24_House_Winner [.ptr 0 0, .agg (dcells d.1 d.2)] (hoR w q) (fun r H => r = wonV (winR w d) ∧ H = hoR w q) := by
  have fin : ∀ (o : Option OC) (l : List SO), o = winR w d → VRet 7 (wonV o) (hoR w q ++ l) (fun r H => r = wonV (winR w d) ∧ H = hoR w q) := by
    rintro o l rfl
    exact VRet.mk [0, 1, 2, 3, 4, 5, 6] (wonV (winR w d)) (hoR w q) ⟨by cases winR w d <;> rfl, rfl, rfl⟩ ⟨rfl, rfl⟩
  refine i_rostrumref24_House_Winner.spec follows ?_
  refine VLoop.mk Nat (fun i => [(0, .ptr 0 0), (3, .ptr 7 0), (4, .ptr 8 0), (8, iv i)]) (fun _ => hoR w q ++ [.cells (dcells d.1 d.2) T_api_Dot, .cells (dcells 0 0) T_api_Dot]) (fun i => i ≤ w.cl.length ∧ ∀ k (hk : k < w.cl.length), k < i → (decide (w.cl[k].1.1 = d.1) && decide (w.cl[k].1.2 = d.2)) = false) (fun i => w.cl.length - i) 0 [0, 1, 2, 3, 4, 5, 6, 7, 8]
    ⟨⟨Nat.zero_le _, fun k _ hk => absurd hk (Nat.not_lt_zero k)⟩, rfl, rfl, rfl⟩ ?_
  rintro i ⟨hi, hno⟩ g
  have hul := hk.el
  refine And.intro (fun t1 => ?_) (fun t1 => ?_)
  · have t1 : (i : Int) < (w.cl.length : Nat) := of_decide_eq_true t1
    have hil : i < w.cl.length := by omega
    have hwi : IntKind.i64.wrap ((i : Int) + 1) = ((i + 1 : Nat) : Int) := wrap64 (by omega)
    have hx := hk.e.cut (fun _ => rfl) hil
    have hx0 := cut_sub hx 0 2 (by omega)
    have hx2 := cut_sub hx 2 2 (by omega)
    have h4 := hk.e.at (fun _ => rfl) hil (j := 4) (by omega)
    have h5 := hk.e.at (fun _ => rfl) hil (j := 5) (by omega)
    have hni : (0 : Int) ≤ (i : Int) ∧ (i : Int) < (w.cl.length : Nat) ∧ q.e.o + w.cl.length * 6 ≤ q.e.xs.length := ⟨Int.natCast_nonneg i, t1, RowG.room hk.e⟩
    refine And.intro hni (Exists.intro _ (And.intro (by rw [Int.toNat_natCast]; exact hx0) ?_))
    refine And.intro (fun t2 => ?_) (fun t2 => ?_)
    · have t2 : (decide (w.cl[i].1.1 = d.1) && decide (w.cl[i].1.2 = d.2)) = true := t2
      refine And.intro hni (Exists.intro _ (And.intro (by rw [Int.toNat_natCast]; exact hx2) ?_))
      refine And.intro hni (Exists.intro _ (And.intro (by rw [Int.toNat_natCast]; exact h4) ?_))
      refine And.intro hni (Exists.intro _ (And.intro (by rw [Int.toNat_natCast]; exact h5) ?_))
      have e : winR w d = some w.cl[i].2 := by unfold winR; rw [find_at hil hno t2]; rfl
      refine And.intro rfl ?_
      refine And.intro rfl ?_
      refine And.intro (And.intro hni rfl) ?_
      refine And.intro (Exists.intro _ (And.intro (by rw [Int.toNat_natCast]; exact h4) rfl)) ?_
      refine And.intro rfl ?_
      refine And.intro rfl ?_
      refine And.intro (And.intro hni rfl) ?_
      refine And.intro (Exists.intro _ (And.intro (by rw [Int.toNat_natCast]; exact h5) rfl)) ?_
      exact fin (some w.cl[i].2) _ e.symm
    · have t2 : (decide (w.cl[i].1.1 = d.1) && decide (w.cl[i].1.2 = d.2)) = false := t2
      refine Exists.intro _ (And.intro hwi ?_)
      refine Exists.intro (i + 1) (Exists.intro [0, 1, 2, 3, 4, 5, 6, 7, 8] (And.intro ⟨⟨hil, fun k hkl hk1 => ?_⟩, by omega⟩ ⟨rfl, rfl, rfl⟩))
      by_cases e : k = i
      · subst e; exact t2
      · exact hno k hkl (by omega)
  · have hil : i = w.cl.length := by have t1 := of_decide_eq_false t1; omega
    have e : winR w d = none := by unfold winR; rw [find_no fun k hk => hno k hk (by omega)]; rfl
    exact fin none _ e.symm
/-! ### What one withdrew -/
def wdS (f : ByteArray) : List ByteArray → List Int → Int
  | a :: l, n :: m => (bif decide (a = f) then n else 0) + wdS f l m
  | _, _ => 0
theorem wdS_snoc (f : ByteArray) : ∀ {l : List ByteArray} {m : List Int} {a : ByteArray} {n : Int}, l.length = m.length → wdS f (l ++ [a]) (m ++ [n]) = wdS f l m + (bif decide (a = f) then n else 0)
  | [], [], a, n, _ => by simp [wdS]
  | b :: l, p :: m, a, n, h => by
    simp only [List.cons_append, wdS]
    rw [wdS_snoc f (by simpa using h)]
    omega
theorem wdS_bound (f : ByteArray) : ∀ {l : List ByteArray} {m : List Int}, (∀ n, n ∈ m → 0 ≤ n ∧ n ≤ 1000000000) → 0 ≤ wdS f l m ∧ wdS f l m ≤ 1000000000 * m.length
  | [], m, _ => by simp [wdS]; omega
  | b :: l, [], _ => by simp [wdS]
  | b :: l, p :: m, h => by
    have h1 := h p (by simp)
    have h2 := wdS_bound f (l := l) (m := m) (fun n hn => h n (by simp [hn]))
    simp only [wdS, List.length_cons]
    cases decide (b = f) <;> simp only [cond_true, cond_false] <;> omega
theorem s_withdrawn (h : Nat → Option Obj) (hc : CaseH h) (w : RH) (q : RQ) (hk : RK w q) (hs : ∀ n, n ∈ w.su → 0 ≤ n ∧ n ≤ 1000000000) (u : ByteArray) (hu : u.size ≤ 100000000) :
    Ctr Tryz.prog F_rostrumref24_House_withdrawn [.ptr 0 0, .raw (.string u)] (hoR w q ++ [.heap h]) (fun r H => r = iv (wdS (foldB u) w.sp w.su) ∧ H = hoR w q ++ [.heap h]) := by
  refine i_rostrumref24_House_withdrawn.spec follows ?_
  refine VLoop.mk Nat (fun i => [(0, .ptr 0 0), (1, .raw (.string u)), (5, iv (wdS (foldB u) (w.sp.take i) (w.su.take i))), (6, iv i)]) (fun _ => hoR w q ++ [.heap h]) (fun i => i ≤ w.sp.length) (fun i => w.sp.length - i) 0 [0, 1, 2, 3, 4, 5, 6, 7]
    ⟨Nat.zero_le _, rfl, rfl, rfl⟩ ?_
  rintro i hi g
  have hul := hk.pl
  have hsl := hk.sl
  refine And.intro (fun t1 => ?_) (fun t1 => ?_)
  · have t1 : (i : Int) < (w.sp.length : Nat) := of_decide_eq_true t1
    have hil : i < w.sp.length := by omega
    have hil2 : i < w.su.length := by omega
    have hwi : IntKind.i64.wrap ((i : Int) + 1) = ((i + 1 : Nat) : Int) := wrap64 (by omega)
    have hx := RowG.one hk.p (fun _ => rfl) hil
    have hy := RowG.one hk.s (fun _ => rfl) hil2
    have hni : (0 : Int) ≤ (i : Int) ∧ (i : Int) < (w.sp.length : Nat) ∧ q.p.o + w.sp.length * 1 ≤ q.p.xs.length := ⟨Int.natCast_nonneg i, t1, RowG.room hk.p⟩
    have hnj : (0 : Int) ≤ (i : Int) ∧ (i : Int) < (w.su.length : Nat) ∧ q.s.o + w.su.length * 1 ≤ q.s.xs.length := ⟨Int.natCast_nonneg i, by omega, RowG.room hk.s⟩
    have hb := wdS_bound (foldB u) (l := w.sp.take i) (m := w.su.take i) (fun n hn => hs n (List.mem_of_mem_take hn))
    have hbl : (w.su.take i).length = i := by rw [List.length_take]; omega
    have hpl : (w.sp.take i).length = i := by rw [List.length_take]; omega
    have hsi := hs _ (List.getElem_mem hil2)
    have hstep : wdS (foldB u) (w.sp.take (i + 1)) (w.su.take (i + 1)) = wdS (foldB u) (w.sp.take i) (w.su.take i) + (bif decide (w.sp[i] = foldB u) then w.su[i] else 0) := by
      rw [← List.take_append_getElem hil, ← List.take_append_getElem hil2]
      exact wdS_snoc _ (by omega)
    refine And.intro hni (Exists.intro _ (And.intro (by rw [Int.toNat_natCast]; exact hx) ?_))
    refine VCall.mk [7] (s_ref_Fold h hc u hu) ⟨rfl, rfl, rfl⟩ ?_
    rintro _ _ ⟨rfl, rfl⟩
    refine And.intro rfl (And.intro rfl ?_)
    refine And.intro (And.intro hni rfl) ?_
    refine And.intro (Exists.intro _ (And.intro (by rw [Int.toNat_natCast]; exact hx) rfl)) ?_
    refine And.intro (fun t2 => ?_) (fun t2 => ?_)
    · rw [strB] at t2
      have t2 : decide (w.sp[i] = foldB u) = true := t2
      rw [t2] at hstep
      have hw : IntKind.i64.wrap (wdS (foldB u) (w.sp.take i) (w.su.take i) + w.su[i]) = wdS (foldB u) (w.sp.take i) (w.su.take i) + w.su[i] := wrap64 (by omega)
      refine And.intro hnj (Exists.intro _ (And.intro (by rw [Int.toNat_natCast]; exact hy) ?_))
      refine Exists.intro _ (And.intro hw ?_)
      refine Exists.intro _ (And.intro hwi ?_)
      exact Exists.intro (i + 1) (Exists.intro [0, 1, 2, 3, 4, 5, 6, 7] (And.intro ⟨hil, by omega⟩ ⟨by simp only [hstep]; rfl, rfl, rfl⟩))
    · rw [strB] at t2
      have t2 : decide (w.sp[i] = foldB u) = false := t2
      rw [t2] at hstep
      have hstep : wdS (foldB u) (w.sp.take (i + 1)) (w.su.take (i + 1)) = wdS (foldB u) (w.sp.take i) (w.su.take i) := by simpa using hstep
      refine Exists.intro _ (And.intro hwi ?_)
      exact Exists.intro (i + 1) (Exists.intro [0, 1, 2, 3, 4, 5, 6, 7] (And.intro ⟨hil, by omega⟩ ⟨by simp only [hstep]; rfl, rfl, rfl⟩))
  · have hil : i = w.sp.length := by have t1 := of_decide_eq_false t1; omega
    subst hil
    have e : wdS (foldB u) (w.sp.take w.sp.length) (w.su.take w.sp.length) = wdS (foldB u) w.sp w.su := by rw [List.take_length, ← hsl, List.take_length]
    exact VRet.mk [0, 1, 2, 3, 4, 5, 6, 7] (iv (wdS (foldB u) (w.sp.take w.sp.length) (w.su.take w.sp.length))) (hoR w q ++ [.heap h]) ⟨rfl, rfl, rfl⟩ ⟨by rw [e], rfl⟩
end Go.Proofs

namespace Go.Proofs
open Go Go.V Go.Lib
set_option maxRecDepth 100000
set_option linter.unusedVariables false

set_option maxHeartbeats 2000000 in
theorem s_refGood1 (h : Nat → Option Obj) (hu : Uni h) (s : ST) (h1 : s.name.size ≤ 1000) (h2 : s.user.size ≤ 1000) (hk : s.kind = 1) :
    Ctr Tryz.prog F_rostrumref24_Good [.agg (stcells s)] [.heap h] (fun x H => x = bv (goodT s) ∧ H = [.heap h]) := by
  have fin : ∀ (b : Bool) (l : List SO), b = goodT s → VRet 1 (bv b) (.heap h :: l) (fun x H => x = bv (goodT s) ∧ H = [.heap h]) := by
    rintro b l rfl
    exact VRet.mk [0] _ [.heap h] ⟨rfl, rfl, rfl⟩ ⟨rfl, rfl⟩
  refine i_rostrumref24_Good.spec follows ?_
  have bad : ∀ l : List SO, headT s = false → VRet 1 (bv false) (.heap h :: l) (fun x H => x = bv (goodT s) ∧ H = [.heap h]) := fun l hb => fin _ _ (by simp [goodT, hb])
  refine And.intro (fun k1 => ?_) (fun k1 => bad _ (by simp at k1; simp [headT]; omega))
  refine And.intro (fun k2 => ?_) (fun k2 => bad _ (by simp at k2; simp [headT]; omega))
  refine VCall.mk [] (s_ref_May s.rep s.n) ⟨rfl, rfl, rfl⟩ ?_
  rintro _ _ ⟨rfl, rfl⟩
  refine And.intro (fun k3 => ?_) (fun k3 => bad _ (by simp at k3; simp [headT, k3]))
  refine VCall.mk [] (s_ref_Vgood s.seen) ⟨rfl, rfl, rfl⟩ ?_
  rintro _ _ ⟨rfl, rfl⟩
  refine And.intro (fun k4 => ?_) (fun k4 => bad _ (by simp at k4; simp [headT, k4]))
  refine And.intro (fun k5 => ?_) (fun k5 => bad _ (by simp at k5; simp [headT]; omega))
  refine And.intro (fun k6 => bad _ (by simp at k6; simp [headT]; omega)) (fun k6 => ?_)
  have k1 : 1 ≤ s.kind := by simpa using k1
  have k2 : s.kind ≤ 7 := by simpa using k2
  have k3 : isDot s.rep s.n = true := by simpa using k3
  have k4 : vgoodB s.seen = true := by simpa using k4
  have k5 : 0 ≤ s.reds := by simpa using k5
  have k6 : s.reds ≤ 1000 := by simpa using k6
  have hh : headT s = true := by simp [headT, k1, k2, k3, k4, k5, k6]
  have hdot : (0 ≤ s.rep ∧ s.rep < 7) ∧ 1 ≤ s.n ∧ s.n ≤ 1099511627776 := by
    simp only [isDot, isRep, Bool.and_eq_true, decide_eq_true_eq] at k3; omega
  have hw : IntKind.i64.wrap (s.n - 1) = s.n - 1 := wrap64 (by omega)
  refine And.intro (fun r1 => ?_) (fun r1 => absurd (of_decide_eq_false r1) (by omega))
  refine And.intro hdot.1 (Exists.intro _ (And.intro (stcells_seen s hdot.1) ?_))
  refine Exists.intro _ (And.intro hw ?_)
  repeat' (first
    | (refine And.intro (fun r => ?_) (fun r => absurd r (by rw [hk]; decide)))
    | (refine And.intro (fun r => absurd r (by rw [hk]; decide)) (fun r => ?_))
    | (refine VCall.mk [0] (s_ref_GoodName h hu s.name (Nat.le_trans h1 (by decide))) ⟨rfl, rfl, rfl⟩ ?_; rintro _ _ ⟨rfl, rfl⟩)
    | (refine VCall.mk [0] (s_ref_GoodName h hu s.user (Nat.le_trans h2 (by decide))) ⟨rfl, rfl, rfl⟩ ?_; rintro _ _ ⟨rfl, rfl⟩)
    | (refine VCall.mk [] (s_ref_May s.ar s.an) ⟨rfl, rfl, rfl⟩ ?_; rintro _ _ ⟨rfl, rfl⟩)
    | (refine VCall.mk [] (s_ref_May s.br s.bn) ⟨rfl, rfl, rfl⟩ ?_; rintro _ _ ⟨rfl, rfl⟩)
    | (refine And.intro (fun r => fin _ _ (by (clear fin bad; simp_all [goodT, redT, partT, wordB, pointB, numB, userK, auctK, amntK] <;> (try (intros; omega))))) (fun r => ?_))
    | (refine And.intro (fun r => ?_) (fun r => fin _ _ (by (clear fin bad; simp_all [goodT, redT, partT, wordB, pointB, numB, userK, auctK, amntK] <;> (try (intros; omega))))))
    | (refine And.intro (fun r => ?_) (fun r => ?_)))
  all_goals exact fin _ _ (by (clear fin bad; simp_all [goodT, redT, partT, wordB, pointB, numB, userK, auctK, amntK] <;> (try (intros; omega))))
set_option maxHeartbeats 2000000 in
theorem s_refGood2 (h : Nat → Option Obj) (hu : Uni h) (s : ST) (h1 : s.name.size ≤ 1000) (h2 : s.user.size ≤ 1000) (hk : s.kind = 2) :
    Ctr Tryz.prog F_rostrumref24_Good [.agg (stcells s)] [.heap h] (fun x H => x = bv (goodT s) ∧ H = [.heap h]) := by
  have fin : ∀ (b : Bool) (l : List SO), b = goodT s → VRet 1 (bv b) (.heap h :: l) (fun x H => x = bv (goodT s) ∧ H = [.heap h]) := by
    rintro b l rfl
    exact VRet.mk [0] _ [.heap h] ⟨rfl, rfl, rfl⟩ ⟨rfl, rfl⟩
  refine i_rostrumref24_Good.spec follows ?_
  have bad : ∀ l : List SO, headT s = false → VRet 1 (bv false) (.heap h :: l) (fun x H => x = bv (goodT s) ∧ H = [.heap h]) := fun l hb => fin _ _ (by simp [goodT, hb])
  refine And.intro (fun k1 => ?_) (fun k1 => bad _ (by simp at k1; simp [headT]; omega))
  refine And.intro (fun k2 => ?_) (fun k2 => bad _ (by simp at k2; simp [headT]; omega))
  refine VCall.mk [] (s_ref_May s.rep s.n) ⟨rfl, rfl, rfl⟩ ?_
  rintro _ _ ⟨rfl, rfl⟩
  refine And.intro (fun k3 => ?_) (fun k3 => bad _ (by simp at k3; simp [headT, k3]))
  refine VCall.mk [] (s_ref_Vgood s.seen) ⟨rfl, rfl, rfl⟩ ?_
  rintro _ _ ⟨rfl, rfl⟩
  refine And.intro (fun k4 => ?_) (fun k4 => bad _ (by simp at k4; simp [headT, k4]))
  refine And.intro (fun k5 => ?_) (fun k5 => bad _ (by simp at k5; simp [headT]; omega))
  refine And.intro (fun k6 => bad _ (by simp at k6; simp [headT]; omega)) (fun k6 => ?_)
  have k1 : 1 ≤ s.kind := by simpa using k1
  have k2 : s.kind ≤ 7 := by simpa using k2
  have k3 : isDot s.rep s.n = true := by simpa using k3
  have k4 : vgoodB s.seen = true := by simpa using k4
  have k5 : 0 ≤ s.reds := by simpa using k5
  have k6 : s.reds ≤ 1000 := by simpa using k6
  have hh : headT s = true := by simp [headT, k1, k2, k3, k4, k5, k6]
  have hdot : (0 ≤ s.rep ∧ s.rep < 7) ∧ 1 ≤ s.n ∧ s.n ≤ 1099511627776 := by
    simp only [isDot, isRep, Bool.and_eq_true, decide_eq_true_eq] at k3; omega
  have hw : IntKind.i64.wrap (s.n - 1) = s.n - 1 := wrap64 (by omega)
  refine And.intro (fun r1 => ?_) (fun r1 => absurd (of_decide_eq_false r1) (by omega))
  refine And.intro hdot.1 (Exists.intro _ (And.intro (stcells_seen s hdot.1) ?_))
  refine Exists.intro _ (And.intro hw ?_)
  repeat' (first
    | (refine And.intro (fun r => ?_) (fun r => absurd r (by rw [hk]; decide)))
    | (refine And.intro (fun r => absurd r (by rw [hk]; decide)) (fun r => ?_))
    | (refine VCall.mk [0] (s_ref_GoodName h hu s.name (Nat.le_trans h1 (by decide))) ⟨rfl, rfl, rfl⟩ ?_; rintro _ _ ⟨rfl, rfl⟩)
    | (refine VCall.mk [0] (s_ref_GoodName h hu s.user (Nat.le_trans h2 (by decide))) ⟨rfl, rfl, rfl⟩ ?_; rintro _ _ ⟨rfl, rfl⟩)
    | (refine VCall.mk [] (s_ref_May s.ar s.an) ⟨rfl, rfl, rfl⟩ ?_; rintro _ _ ⟨rfl, rfl⟩)
    | (refine VCall.mk [] (s_ref_May s.br s.bn) ⟨rfl, rfl, rfl⟩ ?_; rintro _ _ ⟨rfl, rfl⟩)
    | (refine And.intro (fun r => fin _ _ (by (clear fin bad; simp_all [goodT, redT, partT, wordB, pointB, numB, userK, auctK, amntK] <;> (try (intros; omega))))) (fun r => ?_))
    | (refine And.intro (fun r => ?_) (fun r => fin _ _ (by (clear fin bad; simp_all [goodT, redT, partT, wordB, pointB, numB, userK, auctK, amntK] <;> (try (intros; omega))))))
    | (refine And.intro (fun r => ?_) (fun r => ?_)))
  all_goals exact fin _ _ (by (clear fin bad; simp_all [goodT, redT, partT, wordB, pointB, numB, userK, auctK, amntK] <;> (try (intros; omega))))
set_option maxHeartbeats 2000000 in
theorem s_refGood3 (h : Nat → Option Obj) (hu : Uni h) (s : ST) (h1 : s.name.size ≤ 1000) (h2 : s.user.size ≤ 1000) (hk : s.kind = 3) :
    Ctr Tryz.prog F_rostrumref24_Good [.agg (stcells s)] [.heap h] (fun x H => x = bv (goodT s) ∧ H = [.heap h]) := by
  have fin : ∀ (b : Bool) (l : List SO), b = goodT s → VRet 1 (bv b) (.heap h :: l) (fun x H => x = bv (goodT s) ∧ H = [.heap h]) := by
    rintro b l rfl
    exact VRet.mk [0] _ [.heap h] ⟨rfl, rfl, rfl⟩ ⟨rfl, rfl⟩
  refine i_rostrumref24_Good.spec follows ?_
  have bad : ∀ l : List SO, headT s = false → VRet 1 (bv false) (.heap h :: l) (fun x H => x = bv (goodT s) ∧ H = [.heap h]) := fun l hb => fin _ _ (by simp [goodT, hb])
  refine And.intro (fun k1 => ?_) (fun k1 => bad _ (by simp at k1; simp [headT]; omega))
  refine And.intro (fun k2 => ?_) (fun k2 => bad _ (by simp at k2; simp [headT]; omega))
  refine VCall.mk [] (s_ref_May s.rep s.n) ⟨rfl, rfl, rfl⟩ ?_
  rintro _ _ ⟨rfl, rfl⟩
  refine And.intro (fun k3 => ?_) (fun k3 => bad _ (by simp at k3; simp [headT, k3]))
  refine VCall.mk [] (s_ref_Vgood s.seen) ⟨rfl, rfl, rfl⟩ ?_
  rintro _ _ ⟨rfl, rfl⟩
  refine And.intro (fun k4 => ?_) (fun k4 => bad _ (by simp at k4; simp [headT, k4]))
  refine And.intro (fun k5 => ?_) (fun k5 => bad _ (by simp at k5; simp [headT]; omega))
  refine And.intro (fun k6 => bad _ (by simp at k6; simp [headT]; omega)) (fun k6 => ?_)
  have k1 : 1 ≤ s.kind := by simpa using k1
  have k2 : s.kind ≤ 7 := by simpa using k2
  have k3 : isDot s.rep s.n = true := by simpa using k3
  have k4 : vgoodB s.seen = true := by simpa using k4
  have k5 : 0 ≤ s.reds := by simpa using k5
  have k6 : s.reds ≤ 1000 := by simpa using k6
  have hh : headT s = true := by simp [headT, k1, k2, k3, k4, k5, k6]
  have hdot : (0 ≤ s.rep ∧ s.rep < 7) ∧ 1 ≤ s.n ∧ s.n ≤ 1099511627776 := by
    simp only [isDot, isRep, Bool.and_eq_true, decide_eq_true_eq] at k3; omega
  have hw : IntKind.i64.wrap (s.n - 1) = s.n - 1 := wrap64 (by omega)
  refine And.intro (fun r1 => ?_) (fun r1 => absurd (of_decide_eq_false r1) (by omega))
  refine And.intro hdot.1 (Exists.intro _ (And.intro (stcells_seen s hdot.1) ?_))
  refine Exists.intro _ (And.intro hw ?_)
  repeat' (first
    | (refine And.intro (fun r => ?_) (fun r => absurd r (by rw [hk]; decide)))
    | (refine And.intro (fun r => absurd r (by rw [hk]; decide)) (fun r => ?_))
    | (refine VCall.mk [0] (s_ref_GoodName h hu s.name (Nat.le_trans h1 (by decide))) ⟨rfl, rfl, rfl⟩ ?_; rintro _ _ ⟨rfl, rfl⟩)
    | (refine VCall.mk [0] (s_ref_GoodName h hu s.user (Nat.le_trans h2 (by decide))) ⟨rfl, rfl, rfl⟩ ?_; rintro _ _ ⟨rfl, rfl⟩)
    | (refine VCall.mk [] (s_ref_May s.ar s.an) ⟨rfl, rfl, rfl⟩ ?_; rintro _ _ ⟨rfl, rfl⟩)
    | (refine VCall.mk [] (s_ref_May s.br s.bn) ⟨rfl, rfl, rfl⟩ ?_; rintro _ _ ⟨rfl, rfl⟩)
    | (refine And.intro (fun r => fin _ _ (by (clear fin bad; simp_all [goodT, redT, partT, wordB, pointB, numB, userK, auctK, amntK] <;> (try (intros; omega))))) (fun r => ?_))
    | (refine And.intro (fun r => ?_) (fun r => fin _ _ (by (clear fin bad; simp_all [goodT, redT, partT, wordB, pointB, numB, userK, auctK, amntK] <;> (try (intros; omega))))))
    | (refine And.intro (fun r => ?_) (fun r => ?_)))
  all_goals exact fin _ _ (by (clear fin bad; simp_all [goodT, redT, partT, wordB, pointB, numB, userK, auctK, amntK] <;> (try (intros; omega))))
set_option maxHeartbeats 2000000 in
theorem s_refGood4 (h : Nat → Option Obj) (hu : Uni h) (s : ST) (h1 : s.name.size ≤ 1000) (h2 : s.user.size ≤ 1000) (hk : s.kind = 4) :
    Ctr Tryz.prog F_rostrumref24_Good [.agg (stcells s)] [.heap h] (fun x H => x = bv (goodT s) ∧ H = [.heap h]) := by
  have fin : ∀ (b : Bool) (l : List SO), b = goodT s → VRet 1 (bv b) (.heap h :: l) (fun x H => x = bv (goodT s) ∧ H = [.heap h]) := by
    rintro b l rfl
    exact VRet.mk [0] _ [.heap h] ⟨rfl, rfl, rfl⟩ ⟨rfl, rfl⟩
  refine i_rostrumref24_Good.spec follows ?_
  have bad : ∀ l : List SO, headT s = false → VRet 1 (bv false) (.heap h :: l) (fun x H => x = bv (goodT s) ∧ H = [.heap h]) := fun l hb => fin _ _ (by simp [goodT, hb])
  refine And.intro (fun k1 => ?_) (fun k1 => bad _ (by simp at k1; simp [headT]; omega))
  refine And.intro (fun k2 => ?_) (fun k2 => bad _ (by simp at k2; simp [headT]; omega))
  refine VCall.mk [] (s_ref_May s.rep s.n) ⟨rfl, rfl, rfl⟩ ?_
  rintro _ _ ⟨rfl, rfl⟩
  refine And.intro (fun k3 => ?_) (fun k3 => bad _ (by simp at k3; simp [headT, k3]))
  refine VCall.mk [] (s_ref_Vgood s.seen) ⟨rfl, rfl, rfl⟩ ?_
  rintro _ _ ⟨rfl, rfl⟩
  refine And.intro (fun k4 => ?_) (fun k4 => bad _ (by simp at k4; simp [headT, k4]))
  refine And.intro (fun k5 => ?_) (fun k5 => bad _ (by simp at k5; simp [headT]; omega))
  refine And.intro (fun k6 => bad _ (by simp at k6; simp [headT]; omega)) (fun k6 => ?_)
  have k1 : 1 ≤ s.kind := by simpa using k1
  have k2 : s.kind ≤ 7 := by simpa using k2
  have k3 : isDot s.rep s.n = true := by simpa using k3
  have k4 : vgoodB s.seen = true := by simpa using k4
  have k5 : 0 ≤ s.reds := by simpa using k5
  have k6 : s.reds ≤ 1000 := by simpa using k6
  have hh : headT s = true := by simp [headT, k1, k2, k3, k4, k5, k6]
  have hdot : (0 ≤ s.rep ∧ s.rep < 7) ∧ 1 ≤ s.n ∧ s.n ≤ 1099511627776 := by
    simp only [isDot, isRep, Bool.and_eq_true, decide_eq_true_eq] at k3; omega
  have hw : IntKind.i64.wrap (s.n - 1) = s.n - 1 := wrap64 (by omega)
  refine And.intro (fun r1 => ?_) (fun r1 => absurd (of_decide_eq_false r1) (by omega))
  refine And.intro hdot.1 (Exists.intro _ (And.intro (stcells_seen s hdot.1) ?_))
  refine Exists.intro _ (And.intro hw ?_)
  repeat' (first
    | (refine And.intro (fun r => ?_) (fun r => absurd r (by rw [hk]; decide)))
    | (refine And.intro (fun r => absurd r (by rw [hk]; decide)) (fun r => ?_))
    | (refine VCall.mk [0] (s_ref_GoodName h hu s.name (Nat.le_trans h1 (by decide))) ⟨rfl, rfl, rfl⟩ ?_; rintro _ _ ⟨rfl, rfl⟩)
    | (refine VCall.mk [0] (s_ref_GoodName h hu s.user (Nat.le_trans h2 (by decide))) ⟨rfl, rfl, rfl⟩ ?_; rintro _ _ ⟨rfl, rfl⟩)
    | (refine VCall.mk [] (s_ref_May s.ar s.an) ⟨rfl, rfl, rfl⟩ ?_; rintro _ _ ⟨rfl, rfl⟩)
    | (refine VCall.mk [] (s_ref_May s.br s.bn) ⟨rfl, rfl, rfl⟩ ?_; rintro _ _ ⟨rfl, rfl⟩)
    | (refine And.intro (fun r => fin _ _ (by (clear fin bad; simp_all [goodT, redT, partT, wordB, pointB, numB, userK, auctK, amntK] <;> (try (intros; omega))))) (fun r => ?_))
    | (refine And.intro (fun r => ?_) (fun r => fin _ _ (by (clear fin bad; simp_all [goodT, redT, partT, wordB, pointB, numB, userK, auctK, amntK] <;> (try (intros; omega))))))
    | (refine And.intro (fun r => ?_) (fun r => ?_)))
  all_goals exact fin _ _ (by (clear fin bad; simp_all [goodT, redT, partT, wordB, pointB, numB, userK, auctK, amntK] <;> (try (intros; omega))))
set_option maxHeartbeats 2000000 in
theorem s_refGood5 (h : Nat → Option Obj) (hu : Uni h) (s : ST) (h1 : s.name.size ≤ 1000) (h2 : s.user.size ≤ 1000) (hk : s.kind = 5) :
    Ctr Tryz.prog F_rostrumref24_Good [.agg (stcells s)] [.heap h] (fun x H => x = bv (goodT s) ∧ H = [.heap h]) := by
  have fin : ∀ (b : Bool) (l : List SO), b = goodT s → VRet 1 (bv b) (.heap h :: l) (fun x H => x = bv (goodT s) ∧ H = [.heap h]) := by
    rintro b l rfl
    exact VRet.mk [0] _ [.heap h] ⟨rfl, rfl, rfl⟩ ⟨rfl, rfl⟩
  refine i_rostrumref24_Good.spec follows ?_
  have bad : ∀ l : List SO, headT s = false → VRet 1 (bv false) (.heap h :: l) (fun x H => x = bv (goodT s) ∧ H = [.heap h]) := fun l hb => fin _ _ (by simp [goodT, hb])
  refine And.intro (fun k1 => ?_) (fun k1 => bad _ (by simp at k1; simp [headT]; omega))
  refine And.intro (fun k2 => ?_) (fun k2 => bad _ (by simp at k2; simp [headT]; omega))
  refine VCall.mk [] (s_ref_May s.rep s.n) ⟨rfl, rfl, rfl⟩ ?_
  rintro _ _ ⟨rfl, rfl⟩
  refine And.intro (fun k3 => ?_) (fun k3 => bad _ (by simp at k3; simp [headT, k3]))
  refine VCall.mk [] (s_ref_Vgood s.seen) ⟨rfl, rfl, rfl⟩ ?_
  rintro _ _ ⟨rfl, rfl⟩
  refine And.intro (fun k4 => ?_) (fun k4 => bad _ (by simp at k4; simp [headT, k4]))
  refine And.intro (fun k5 => ?_) (fun k5 => bad _ (by simp at k5; simp [headT]; omega))
  refine And.intro (fun k6 => bad _ (by simp at k6; simp [headT]; omega)) (fun k6 => ?_)
  have k1 : 1 ≤ s.kind := by simpa using k1
  have k2 : s.kind ≤ 7 := by simpa using k2
  have k3 : isDot s.rep s.n = true := by simpa using k3
  have k4 : vgoodB s.seen = true := by simpa using k4
  have k5 : 0 ≤ s.reds := by simpa using k5
  have k6 : s.reds ≤ 1000 := by simpa using k6
  have hh : headT s = true := by simp [headT, k1, k2, k3, k4, k5, k6]
  have hdot : (0 ≤ s.rep ∧ s.rep < 7) ∧ 1 ≤ s.n ∧ s.n ≤ 1099511627776 := by
    simp only [isDot, isRep, Bool.and_eq_true, decide_eq_true_eq] at k3; omega
  repeat' (first
    | (refine And.intro (fun r => ?_) (fun r => absurd r (by rw [hk]; decide)))
    | (refine And.intro (fun r => absurd r (by rw [hk]; decide)) (fun r => ?_))
    | (refine VCall.mk [0] (s_ref_GoodName h hu s.name (Nat.le_trans h1 (by decide))) ⟨rfl, rfl, rfl⟩ ?_; rintro _ _ ⟨rfl, rfl⟩)
    | (refine VCall.mk [0] (s_ref_GoodName h hu s.user (Nat.le_trans h2 (by decide))) ⟨rfl, rfl, rfl⟩ ?_; rintro _ _ ⟨rfl, rfl⟩)
    | (refine VCall.mk [] (s_ref_May s.ar s.an) ⟨rfl, rfl, rfl⟩ ?_; rintro _ _ ⟨rfl, rfl⟩)
    | (refine VCall.mk [] (s_ref_May s.br s.bn) ⟨rfl, rfl, rfl⟩ ?_; rintro _ _ ⟨rfl, rfl⟩)
    | (refine And.intro (fun r => fin _ _ (by (clear fin bad; simp_all [goodT, redT, partT, wordB, pointB, numB, userK, auctK, amntK] <;> (try (intros; omega))))) (fun r => ?_))
    | (refine And.intro (fun r => ?_) (fun r => fin _ _ (by (clear fin bad; simp_all [goodT, redT, partT, wordB, pointB, numB, userK, auctK, amntK] <;> (try (intros; omega))))))
    | (refine And.intro (fun r => ?_) (fun r => ?_)))
  all_goals exact fin _ _ (by (clear fin bad; simp_all [goodT, redT, partT, wordB, pointB, numB, userK, auctK, amntK] <;> (try (intros; omega))))
set_option maxHeartbeats 2000000 in
theorem s_refGood6 (h : Nat → Option Obj) (hu : Uni h) (s : ST) (h1 : s.name.size ≤ 1000) (h2 : s.user.size ≤ 1000) (hk : s.kind = 6) :
    Ctr Tryz.prog F_rostrumref24_Good [.agg (stcells s)] [.heap h] (fun x H => x = bv (goodT s) ∧ H = [.heap h]) := by
  have fin : ∀ (b : Bool) (l : List SO), b = goodT s → VRet 1 (bv b) (.heap h :: l) (fun x H => x = bv (goodT s) ∧ H = [.heap h]) := by
    rintro b l rfl
    exact VRet.mk [0] _ [.heap h] ⟨rfl, rfl, rfl⟩ ⟨rfl, rfl⟩
  refine i_rostrumref24_Good.spec follows ?_
  have bad : ∀ l : List SO, headT s = false → VRet 1 (bv false) (.heap h :: l) (fun x H => x = bv (goodT s) ∧ H = [.heap h]) := fun l hb => fin _ _ (by simp [goodT, hb])
  refine And.intro (fun k1 => ?_) (fun k1 => bad _ (by simp at k1; simp [headT]; omega))
  refine And.intro (fun k2 => ?_) (fun k2 => bad _ (by simp at k2; simp [headT]; omega))
  refine VCall.mk [] (s_ref_May s.rep s.n) ⟨rfl, rfl, rfl⟩ ?_
  rintro _ _ ⟨rfl, rfl⟩
  refine And.intro (fun k3 => ?_) (fun k3 => bad _ (by simp at k3; simp [headT, k3]))
  refine VCall.mk [] (s_ref_Vgood s.seen) ⟨rfl, rfl, rfl⟩ ?_
  rintro _ _ ⟨rfl, rfl⟩
  refine And.intro (fun k4 => ?_) (fun k4 => bad _ (by simp at k4; simp [headT, k4]))
  refine And.intro (fun k5 => ?_) (fun k5 => bad _ (by simp at k5; simp [headT]; omega))
  refine And.intro (fun k6 => bad _ (by simp at k6; simp [headT]; omega)) (fun k6 => ?_)
  have k1 : 1 ≤ s.kind := by simpa using k1
  have k2 : s.kind ≤ 7 := by simpa using k2
  have k3 : isDot s.rep s.n = true := by simpa using k3
  have k4 : vgoodB s.seen = true := by simpa using k4
  have k5 : 0 ≤ s.reds := by simpa using k5
  have k6 : s.reds ≤ 1000 := by simpa using k6
  have hh : headT s = true := by simp [headT, k1, k2, k3, k4, k5, k6]
  have hdot : (0 ≤ s.rep ∧ s.rep < 7) ∧ 1 ≤ s.n ∧ s.n ≤ 1099511627776 := by
    simp only [isDot, isRep, Bool.and_eq_true, decide_eq_true_eq] at k3; omega
  repeat' (first
    | (refine And.intro (fun r => ?_) (fun r => absurd r (by rw [hk]; decide)))
    | (refine And.intro (fun r => absurd r (by rw [hk]; decide)) (fun r => ?_))
    | (refine VCall.mk [0] (s_ref_GoodName h hu s.name (Nat.le_trans h1 (by decide))) ⟨rfl, rfl, rfl⟩ ?_; rintro _ _ ⟨rfl, rfl⟩)
    | (refine VCall.mk [0] (s_ref_GoodName h hu s.user (Nat.le_trans h2 (by decide))) ⟨rfl, rfl, rfl⟩ ?_; rintro _ _ ⟨rfl, rfl⟩)
    | (refine VCall.mk [] (s_ref_May s.ar s.an) ⟨rfl, rfl, rfl⟩ ?_; rintro _ _ ⟨rfl, rfl⟩)
    | (refine VCall.mk [] (s_ref_May s.br s.bn) ⟨rfl, rfl, rfl⟩ ?_; rintro _ _ ⟨rfl, rfl⟩)
    | (refine And.intro (fun r => fin _ _ (by (clear fin bad; simp_all [goodT, redT, partT, wordB, pointB, numB, userK, auctK, amntK] <;> (try (intros; omega))))) (fun r => ?_))
    | (refine And.intro (fun r => ?_) (fun r => fin _ _ (by (clear fin bad; simp_all [goodT, redT, partT, wordB, pointB, numB, userK, auctK, amntK] <;> (try (intros; omega))))))
    | (refine And.intro (fun r => ?_) (fun r => ?_)))
  all_goals exact fin _ _ (by (clear fin bad; simp_all [goodT, redT, partT, wordB, pointB, numB, userK, auctK, amntK] <;> (try (intros; omega))))
set_option maxHeartbeats 2000000 in
theorem s_refGood7 (h : Nat → Option Obj) (hu : Uni h) (s : ST) (h1 : s.name.size ≤ 1000) (h2 : s.user.size ≤ 1000) (hk : s.kind = 7) :
    Ctr Tryz.prog F_rostrumref24_Good [.agg (stcells s)] [.heap h] (fun x H => x = bv (goodT s) ∧ H = [.heap h]) := by
  have fin : ∀ (b : Bool) (l : List SO), b = goodT s → VRet 1 (bv b) (.heap h :: l) (fun x H => x = bv (goodT s) ∧ H = [.heap h]) := by
    rintro b l rfl
    exact VRet.mk [0] _ [.heap h] ⟨rfl, rfl, rfl⟩ ⟨rfl, rfl⟩
  refine i_rostrumref24_Good.spec follows ?_
  have bad : ∀ l : List SO, headT s = false → VRet 1 (bv false) (.heap h :: l) (fun x H => x = bv (goodT s) ∧ H = [.heap h]) := fun l hb => fin _ _ (by simp [goodT, hb])
  refine And.intro (fun k1 => ?_) (fun k1 => bad _ (by simp at k1; simp [headT]; omega))
  refine And.intro (fun k2 => ?_) (fun k2 => bad _ (by simp at k2; simp [headT]; omega))
  refine VCall.mk [] (s_ref_May s.rep s.n) ⟨rfl, rfl, rfl⟩ ?_
  rintro _ _ ⟨rfl, rfl⟩
  refine And.intro (fun k3 => ?_) (fun k3 => bad _ (by simp at k3; simp [headT, k3]))
  refine VCall.mk [] (s_ref_Vgood s.seen) ⟨rfl, rfl, rfl⟩ ?_
  rintro _ _ ⟨rfl, rfl⟩
  refine And.intro (fun k4 => ?_) (fun k4 => bad _ (by simp at k4; simp [headT, k4]))
  refine And.intro (fun k5 => ?_) (fun k5 => bad _ (by simp at k5; simp [headT]; omega))
  refine And.intro (fun k6 => bad _ (by simp at k6; simp [headT]; omega)) (fun k6 => ?_)
  have k1 : 1 ≤ s.kind := by simpa using k1
  have k2 : s.kind ≤ 7 := by simpa using k2
  have k3 : isDot s.rep s.n = true := by simpa using k3
  have k4 : vgoodB s.seen = true := by simpa using k4
  have k5 : 0 ≤ s.reds := by simpa using k5
  have k6 : s.reds ≤ 1000 := by simpa using k6
  have hh : headT s = true := by simp [headT, k1, k2, k3, k4, k5, k6]
  have hdot : (0 ≤ s.rep ∧ s.rep < 7) ∧ 1 ≤ s.n ∧ s.n ≤ 1099511627776 := by
    simp only [isDot, isRep, Bool.and_eq_true, decide_eq_true_eq] at k3; omega
  repeat' (first
    | (refine And.intro (fun r => ?_) (fun r => absurd r (by rw [hk]; decide)))
    | (refine And.intro (fun r => absurd r (by rw [hk]; decide)) (fun r => ?_))
    | (refine VCall.mk [0] (s_ref_GoodName h hu s.name (Nat.le_trans h1 (by decide))) ⟨rfl, rfl, rfl⟩ ?_; rintro _ _ ⟨rfl, rfl⟩)
    | (refine VCall.mk [0] (s_ref_GoodName h hu s.user (Nat.le_trans h2 (by decide))) ⟨rfl, rfl, rfl⟩ ?_; rintro _ _ ⟨rfl, rfl⟩)
    | (refine VCall.mk [] (s_ref_May s.ar s.an) ⟨rfl, rfl, rfl⟩ ?_; rintro _ _ ⟨rfl, rfl⟩)
    | (refine VCall.mk [] (s_ref_May s.br s.bn) ⟨rfl, rfl, rfl⟩ ?_; rintro _ _ ⟨rfl, rfl⟩)
    | (refine And.intro (fun r => fin _ _ (by (clear fin bad; simp_all [goodT, redT, partT, wordB, pointB, numB, userK, auctK, amntK] <;> (try (intros; omega))))) (fun r => ?_))
    | (refine And.intro (fun r => ?_) (fun r => fin _ _ (by (clear fin bad; simp_all [goodT, redT, partT, wordB, pointB, numB, userK, auctK, amntK] <;> (try (intros; omega))))))
    | (refine And.intro (fun r => ?_) (fun r => ?_)))
  all_goals exact fin _ _ (by (clear fin bad; simp_all [goodT, redT, partT, wordB, pointB, numB, userK, auctK, amntK] <;> (try (intros; omega))))
theorem s_refGood (h : Nat → Option Obj) (hu : Uni h) (s : ST) (h1 : s.name.size ≤ 1000) (h2 : s.user.size ≤ 1000) :
    Ctr Tryz.prog F_rostrumref24_Good [.agg (stcells s)] [.heap h] (fun x H => x = bv (goodT s) ∧ H = [.heap h]) := by
  by_cases hk : 1 ≤ s.kind ∧ s.kind ≤ 7
  · obtain ⟨ha, hb⟩ := hk
    have : s.kind = 1 ∨ s.kind = 2 ∨ s.kind = 3 ∨ s.kind = 4 ∨ s.kind = 5 ∨ s.kind = 6 ∨ s.kind = 7 := by omega
    rcases this with k | k | k | k | k | k | k
    · exact s_refGood1 h hu s h1 h2 k
    · exact s_refGood2 h hu s h1 h2 k
    · exact s_refGood3 h hu s h1 h2 k
    · exact s_refGood4 h hu s h1 h2 k
    · exact s_refGood5 h hu s h1 h2 k
    · exact s_refGood6 h hu s h1 h2 k
    · exact s_refGood7 h hu s h1 h2 k
  · have hg : goodT s = false := by
      have : headT s = false := by
        simp only [headT]
        by_cases h1 : 1 ≤ s.kind
        · have : ¬ s.kind ≤ 7 := fun h => hk ⟨h1, h⟩
          rw [decide_eq_false this]; simp
        · rw [decide_eq_false h1]; rfl
      rw [goodT, this]; rfl
    have fin : ∀ (l : List SO), VRet 1 (bv false) (.heap h :: l) (fun x H => x = bv (goodT s) ∧ H = [.heap h]) := by
      intro l
      exact VRet.mk [0] _ [.heap h] ⟨rfl, rfl, rfl⟩ ⟨by rw [hg], rfl⟩
    refine i_rostrumref24_Good.spec follows ?_
    refine And.intro (fun k1 => ?_) (fun k1 => fin _)
    refine And.intro (fun k2 => ?_) (fun k2 => fin _)
    exact absurd (And.intro (by have := of_decide_eq_false k1; omega) (by have := of_decide_eq_false k2; omega)) hk
end Go.Proofs

namespace Go.Proofs
open Go Go.V Go.Lib
set_option maxRecDepth 100000
set_option linter.unusedVariables false

theorem RowG.nilS {α : Type} {cl : α → List Value} {k : Nat} : RowG cl k [] 0 0 ([] : List α) := ⟨Nat.le_refl _, by simp, by simp⟩
def bidR (a : Int × Int) (v : Nat → Int) (s : ST) : Bool := decide (s.kind = 2) && ((decide (s.ar = a.1) && decide (s.an = a.2)) && has v s.rep s.n)
def goneR (v : Nat → Int) (x y : ST) : Bool := decide (y.kind = 3) && ((decide (y.br = x.rep) && decide (y.bn = x.n)) && has v y.rep y.n)
def okR (L : List ST) (a : Int × Int) (v : Nat → Int) (s : ST) : Bool := bidR a v s && !L.any (goneR v s)
def bidsR (w : RH) (a : Int × Int) (v : Nat → Int) : List ST := w.L.filter (okR w.L a v)
theorem nT {b : Bool} (h : (!b) = true) : b = false := by cases b <;> simp_all
theorem nF {b : Bool} (h : (!b) = false) : b = true := by cases b <;> simp_all
structure RBX where
  xs : List Value
  o : Nat
  c : Nat
  D : List ST
  i : Nat
structure RBY where
  k : Nat
  b : Bool
theorem anyTake {α : Type} {p : α → Bool} {l : List α} {k : Nat} (h : k < l.length) : (l.take (k + 1)).any p = ((l.take k).any p || p l[k]) := by
  rw [← List.take_append_getElem h, List.any_append]; simp
theorem filterTake {α : Type} {p : α → Bool} {l : List α} {k : Nat} (h : k < l.length) : (l.take (k + 1)).filter p = (l.take k).filter p ++ (bif p l[k] then [l[k]] else []) := by
  rw [← List.take_append_getElem h, List.filter_append]
  cases hp : p l[k] <;> simp [hp]
set_option maxHeartbeats 2000000 in
theorem s_refBids (w : RH) (q : RQ) (hk : RK w q) (a : Int × Int) (v : Nat → Int) :
    Ctr Tryz.prog F_rostrumref24_House_bids [.ptr 0 0, .agg (dcells a.1 a.2), .agg (vcells v)] (hoR w q)
      (fun r H => ∃ xs o c, r = .sl 7 o (bidsR w a v).length c ∧ H = hoR w q ++ [.arr xs T_rostrumref24_Step] ∧ RowG stcl 19 xs o c (bidsR w a v)) := by
  refine i_rostrumref24_House_bids.spec follows ?_
  refine VLoop.nil T_rostrumref24_Step [7] [] ⟨rfl, rfl⟩ ?_
  have hll := hk.ll
  refine VLoop.mk RBX (fun x => [(0, .ptr 0 0), (4, .ptr 7 0), (5, .ptr 8 0), (7, .sl 9 x.o x.D.length x.c), (8, iv x.i)]) (fun x => hoR w q ++ [.cells (dcells a.1 a.2) T_api_Dot, .cells (vcells v) T_rostrumref7_Vec, .arr x.xs T_rostrumref24_Step])
    (fun x => x.i ≤ w.L.length ∧ x.D = (w.L.take x.i).filter (okR w.L a v) ∧ RowG stcl 19 x.xs x.o x.c x.D) (fun x => w.L.length - x.i) ⟨[], 0, 0, [], 0⟩ [0, 1, 2, 3, 4, 5, 6, 7, 8, 9]
    ⟨⟨Nat.zero_le _, rfl, RowG.nilS⟩, rfl, rfl, rfl⟩ ?_
  rintro ⟨xs, o, c, D, i⟩ ⟨hi, hD, hr⟩ g
  simp only at hi hD hr
  refine And.intro (fun t1 => ?_) (fun t1 => ?_)
  · have t1 : (i : Int) < (w.L.length : Nat) := of_decide_eq_true t1
    have hil : i < w.L.length := by omega
    have hwi : IntKind.i64.wrap ((i : Int) + 1) = ((i + 1 : Nat) : Int) := wrap64 (by omega)
    have hx := hk.l.cut (fun _ => rfl) hil
    have hft := filterTake (p := okR w.L a v) hil
    have hni : (0 : Int) ≤ (i : Int) ∧ (i : Int) < (w.L.length : Nat) ∧ q.l.o + w.L.length * 19 ≤ q.l.xs.length := ⟨Int.natCast_nonneg i, t1, RowG.room hk.l⟩
    refine And.intro hni (Exists.intro _ (And.intro (by rw [Int.toNat_natCast]; exact hx) ?_))
    have stay : okR w.L a v w.L[i] = false → (i + 1 ≤ w.L.length ∧ D = (w.L.take (i + 1)).filter (okR w.L a v) ∧ RowG stcl 19 xs o c D) := fun hn => ⟨hil, by rw [hft, hn, hD]; simp, hr⟩
    refine And.intro (fun k1 => ?_) (fun k1 => ?_)
    rotate_left 1
    · have k1 : decide (w.L[i].kind = 2) = false := by simpa using k1
      refine Exists.intro _ (And.intro hwi ?_)
      exact Exists.intro ⟨xs, o, c, D, i + 1⟩ (Exists.intro [0, 1, 2, 3, 4, 5, 6, 7, 8, 9] (And.intro ⟨stay (by rw [okR, bidR, k1]; rfl), by simp only; omega⟩ ⟨rfl, rfl, rfl⟩))
    have k1 : decide (w.L[i].kind = 2) = true := by simpa using k1
    refine And.intro (fun k2 => ?_) (fun k2 => ?_)
    rotate_left 1
    · have k2 : (decide (w.L[i].ar = a.1) && decide (w.L[i].an = a.2)) = false := nT k2
      refine Exists.intro _ (And.intro hwi ?_)
      exact Exists.intro ⟨xs, o, c, D, i + 1⟩ (Exists.intro [0, 1, 2, 3, 4, 5, 6, 7, 8, 9] (And.intro ⟨stay (by rw [okR, bidR, k1, k2]; rfl), by simp only; omega⟩ ⟨rfl, rfl, rfl⟩))
    have k2 : (decide (w.L[i].ar = a.1) && decide (w.L[i].an = a.2)) = true := nF k2
    refine VCall.mk [] (s_ref_Has v w.L[i].rep w.L[i].n) ⟨rfl, rfl, rfl⟩ ?_
    rintro _ _ ⟨rfl, rfl⟩
    refine And.intro (fun k3 => ?_) (fun k3 => ?_)
    · have k3 : has v w.L[i].rep w.L[i].n = false := by simpa using k3
      refine Exists.intro _ (And.intro hwi ?_)
      exact Exists.intro ⟨xs, o, c, D, i + 1⟩ (Exists.intro [0, 1, 2, 3, 4, 5, 6, 7, 8, 9] (And.intro ⟨stay (by rw [okR, bidR, k1, k2, k3]; rfl), by simp only; omega⟩ ⟨rfl, rfl, rfl⟩))
    have k3 : has v w.L[i].rep w.L[i].n = true := by simpa using k3
    have hb : bidR a v w.L[i] = true := by rw [bidR, k1, k2, k3]; rfl
    refine VLoop.mk RBY (fun x => [(0, .ptr 0 0), (4, .ptr 7 0), (5, .ptr 8 0), (7, .sl 9 o D.length c), (8, iv i), (9, .ptr 10 0), (10, bv x.b), (11, iv x.k)]) (fun x => hoR w q ++ [.cells (dcells a.1 a.2) T_api_Dot, .cells (vcells v) T_rostrumref7_Vec, .arr xs T_rostrumref24_Step, .cells (stcells w.L[i]) T_rostrumref24_Step])
      (fun x => x.k ≤ w.L.length ∧ x.b = (w.L.take x.k).any (goneR v w.L[i])) (fun x => w.L.length - x.k) ⟨0, false⟩ [0, 1, 2, 3, 4, 5, 6, 7, 8, 9, 10]
      ⟨⟨Nat.zero_le _, rfl⟩, rfl, rfl, rfl⟩ ?_
    rintro ⟨k, b⟩ ⟨hkl, hb2⟩ g2
    simp only at hkl hb2
    refine And.intro (fun t2 => ?_) (fun t2 => ?_)
    · have t2 : (k : Int) < (w.L.length : Nat) := of_decide_eq_true t2
      have hkl' : k < w.L.length := by omega
      have hwk : IntKind.i64.wrap ((k : Int) + 1) = ((k + 1 : Nat) : Int) := wrap64 (by omega)
      have hat := anyTake (p := goneR v w.L[i]) hkl'
      have hnk : (0 : Int) ≤ (k : Int) ∧ (k : Int) < (w.L.length : Nat) ∧ q.l.o + w.L.length * 19 ≤ q.l.xs.length := ⟨Int.natCast_nonneg k, t2, RowG.room hk.l⟩
      have hy := hk.l.cut (fun _ => rfl) hkl'
      have hy0 := hk.l.at (fun _ => rfl) hkl' (j := 0) (by omega)
      have hy1 := cut_sub hy 1 2 (by omega)
      have hy15 := cut_sub hy 15 2 (by omega)
      have go : ∀ b', b' = (b || goneR v w.L[i] w.L[k]) → (k + 1 ≤ w.L.length ∧ b' = (w.L.take (k + 1)).any (goneR v w.L[i])) := fun b' hb' => ⟨hkl', by rw [hat, hb', hb2]⟩
      refine And.intro (fun j0 => ?_) (fun j0 => ?_)
      rotate_left 1
      · refine Exists.intro _ (And.intro hwk ?_)
        exact Exists.intro ⟨k + 1, true⟩ (Exists.intro [0, 1, 2, 3, 4, 5, 6, 7, 8, 9, 10] (And.intro ⟨go true (by have j0 : b = true := j0; rw [j0]; rfl), by simp only; omega⟩ ⟨rfl, rfl, rfl⟩))
      have j0 : b = false := j0
      refine And.intro hnk (Exists.intro _ (And.intro (by rw [Int.toNat_natCast]; exact hy0) ?_))
      refine And.intro (fun j1 => ?_) (fun j1 => ?_)
      rotate_left 1
      · have j1 : decide (w.L[k].kind = 3) = false := j1
        refine Exists.intro _ (And.intro hwk ?_)
        exact Exists.intro ⟨k + 1, false⟩ (Exists.intro [0, 1, 2, 3, 4, 5, 6, 7, 8, 9, 10] (And.intro ⟨go false (by rw [j0, goneR, j1]; rfl), by simp only; omega⟩ ⟨rfl, rfl, rfl⟩))
      have j1 : decide (w.L[k].kind = 3) = true := j1
      refine And.intro hnk (Exists.intro _ (And.intro (by rw [Int.toNat_natCast]; exact hy15) ?_))
      refine And.intro (fun j2 => ?_) (fun j2 => ?_)
      rotate_left 1
      · have j2 : (decide (w.L[k].br = w.L[i].rep) && decide (w.L[k].bn = w.L[i].n)) = false := j2
        refine Exists.intro _ (And.intro hwk ?_)
        exact Exists.intro ⟨k + 1, false⟩ (Exists.intro [0, 1, 2, 3, 4, 5, 6, 7, 8, 9, 10] (And.intro ⟨go false (by rw [j0, goneR, j1, j2]; rfl), by simp only; omega⟩ ⟨rfl, rfl, rfl⟩))
      have j2 : (decide (w.L[k].br = w.L[i].rep) && decide (w.L[k].bn = w.L[i].n)) = true := j2
      refine And.intro hnk (Exists.intro _ (And.intro (by rw [Int.toNat_natCast]; exact hy1) ?_))
      refine VCall.mk [] (s_ref_Has v w.L[k].rep w.L[k].n) ⟨rfl, rfl, rfl⟩ ?_
      rintro _ _ ⟨rfl, rfl⟩
      refine Exists.intro _ (And.intro hwk ?_)
      exact Exists.intro ⟨k + 1, has v w.L[k].rep w.L[k].n⟩ (Exists.intro [0, 1, 2, 3, 4, 5, 6, 7, 8, 9, 10] (And.intro ⟨go _ (by rw [j0, goneR, j1, j2]; rfl), by simp only; omega⟩ ⟨rfl, rfl, rfl⟩))
    · have hkl' : k = w.L.length := by have t2 := of_decide_eq_false t2; simp only at t2; omega
      rw [hkl', List.take_length] at hb2
      refine And.intro (fun t3 => ?_) (fun t3 => ?_)
      rotate_left 1
      · have t3 : b = true := nF t3
        refine Exists.intro _ (And.intro hwi ?_)
        exact Exists.intro ⟨xs, o, c, D, i + 1⟩ (Exists.intro [0, 1, 2, 3, 4, 5, 6, 7, 8, 9] (And.intro ⟨stay (by rw [okR, ← hb2, t3]; simp), by simp only; omega⟩ ⟨rfl, rfl, rfl⟩))
      · have t3 : b = false := nT t3
        have hDl : D.length ≤ i := by rw [hD]; exact Nat.le_trans (List.length_filter_le _ _) (by rw [List.length_take]; omega)
        have hok : okR w.L a v w.L[i] = true := by rw [okR, hb, ← hb2, t3]; rfl
        refine And.intro ⟨⟨hr.1, hr.2.1, rfl⟩, ⟨rfl, rfl⟩, show (D.length + 1) * 168 ≤ 1099511627776 by omega⟩ ?_
        intro xs' o' c' hz
        refine Exists.intro _ (And.intro hwi ?_)
        refine Exists.intro ⟨xs', o', c', D ++ [w.L[i]], i + 1⟩ (Exists.intro [0, 1, 2, 3, 4, 5, 6, 7, 8, 12] (And.intro ⟨⟨hil, by simp only; rw [hft, hok, hD]; rfl, RowG.snoc hr rfl hz.1 hz.2.1 hz.2.2⟩, by simp only; omega⟩ ⟨?_, rfl, rfl⟩))
        simp only [List.length_append, List.length_cons, List.length_nil]; rfl
  · have hil : i = w.L.length := by have t1 := of_decide_eq_false t1; simp only at t1; omega
    rw [hil, List.take_length] at hD
    have hD : D = bidsR w a v := hD
    subst hD
    exact VRet.mk [0, 1, 2, 3, 4, 5, 6, 9] (.sl 7 o (bidsR w a v).length c) (hoR w q ++ [.arr xs T_rostrumref24_Step]) ⟨rfl, rfl, rfl⟩ ⟨xs, o, c, rfl, rfl, hr⟩
/-! ### The greatest amount, the first of them -/
def bestR (l : List ST) (i : Nat) (b : Int) : Prop := (b = -1 ∧ i = 0) ∨ ∃ k : Nat, b = (k : Int) ∧ k < i ∧ ∃ hk : k < l.length, (∀ j (hj : j < l.length), j < i → l[j].amount ≤ l[k].amount) ∧ (∀ j (hj : j < l.length), j < k → l[j].amount < l[k].amount)
structure RBZ where
  i : Nat
  b : Int
theorem s_refBest (l : List ST) (xs : List Value) (o c : Nat) (hr : RowG stcl 19 xs o c l) (hl : l.length ≤ 1000) :
    Ctr Tryz.prog F_rostrumref24_best [.sl 0 o l.length c] [.arr xs T_rostrumref24_Step] (fun r H => ∃ b, r = iv b ∧ bestR l l.length b ∧ H = [.arr xs T_rostrumref24_Step]) := by
  refine i_rostrumref24_best.spec follows ?_
  refine VLoop.mk RBZ (fun x => [(0, .sl 0 o l.length c), (3, iv x.b), (4, iv x.i)]) (fun x => [.arr xs T_rostrumref24_Step])
    (fun x => x.i ≤ l.length ∧ bestR l x.i x.b) (fun x => l.length - x.i) ⟨0, -1⟩ [0] ⟨⟨Nat.zero_le _, .inl ⟨rfl, rfl⟩⟩, rfl, rfl, rfl⟩ ?_
  rintro ⟨i, b⟩ ⟨hi, hb⟩ g
  simp only at hi hb
  refine And.intro (fun t1 => ?_) (fun t1 => ?_)
  · have t1 : (i : Int) < (l.length : Nat) := of_decide_eq_true t1
    have hil : i < l.length := by omega
    have hwi : IntKind.i64.wrap ((i : Int) + 1) = ((i + 1 : Nat) : Int) := wrap64 (by omega)
    have ha := hr.at (fun _ => rfl) hil (j := 17) (by omega)
    have hni : (0 : Int) ≤ (i : Int) ∧ (i : Int) < (l.length : Nat) ∧ o + l.length * 19 ≤ xs.length := ⟨Int.natCast_nonneg i, t1, RowG.room hr⟩
    refine And.intro (fun k1 => ?_) (fun k1 => ?_)
    · have k1 : ¬ b < 0 := of_decide_eq_false k1
      rcases hb with ⟨h1, _⟩ | ⟨k, rfl, hki, hkl, h1, h2⟩
      · exact absurd h1 (by omega)
      have hak := hr.at (fun _ => rfl) hkl (j := 17) (by omega)
      refine And.intro hni (Exists.intro _ (And.intro (by rw [Int.toNat_natCast]; exact ha) ?_))
      refine And.intro ⟨Int.natCast_nonneg k, show (k : Int) < (l.length : Nat) by omega, RowG.room hr⟩ (Exists.intro _ (And.intro (by rw [Int.toNat_natCast]; exact hak) ?_))
      refine And.intro (fun k2 => ?_) (fun k2 => ?_)
      · have k2 : l[k].amount < l[i].amount := of_decide_eq_true k2
        refine Exists.intro _ (And.intro hwi ?_)
        refine Exists.intro ⟨i + 1, (i : Int)⟩ (Exists.intro [0] (And.intro ⟨⟨hil, .inr ⟨i, rfl, Nat.lt_succ_self i, hil, fun j hj hji => ?_, fun j hj hji => ?_⟩⟩, by simp only; omega⟩ ⟨rfl, rfl, rfl⟩))
        · by_cases e : j = i
          · subst e; exact Int.le_refl _
          · exact Int.le_of_lt (Int.lt_of_le_of_lt (h1 j hj (by simp only at hji; omega)) k2)
        · exact Int.lt_of_le_of_lt (h1 j hj hji) k2
      · have k2 : ¬ l[k].amount < l[i].amount := of_decide_eq_false k2
        refine Exists.intro _ (And.intro hwi ?_)
        refine Exists.intro ⟨i + 1, (k : Int)⟩ (Exists.intro [0] (And.intro ⟨⟨hil, .inr ⟨k, rfl, Nat.lt_succ_of_lt hki, hkl, fun j hj hji => ?_, h2⟩⟩, by simp only; omega⟩ ⟨rfl, rfl, rfl⟩))
        by_cases e : j = i
        · subst e; omega
        · exact h1 j hj (by simp only at hji; omega)
    · have k1 : b < 0 := of_decide_eq_true k1
      rcases hb with ⟨h1, h0⟩ | ⟨k, h1, _⟩
      · subst h0
        refine Exists.intro _ (And.intro hwi ?_)
        refine Exists.intro ⟨0 + 1, ((0 : Nat) : Int)⟩ (Exists.intro [0] (And.intro ⟨⟨hil, .inr ⟨0, rfl, Nat.lt_succ_self 0, hil, fun j hj hji => ?_, fun j hj hji => absurd hji (Nat.not_lt_zero _)⟩⟩, by simp only; omega⟩ ⟨rfl, rfl, rfl⟩))
        have : j = 0 := by simp only at hji; omega
        subst this; exact Int.le_refl _
      · exact absurd k1 (by omega)
  · have hil : i = l.length := by have t1 := of_decide_eq_false t1; simp only at t1; omega
    subst hil
    exact VRet.mk [0] (iv b) [.arr xs T_rostrumref24_Step] ⟨rfl, rfl, rfl⟩ ⟨b, rfl, hb, rfl⟩
end Go.Proofs

namespace Go.Proofs
open Go Go.V Go.Lib
set_option maxRecDepth 100000
set_option linter.unusedVariables false

theorem fm_len {α : Type} {cl : α → List Value} {k : Nat} (hk : ∀ x, (cl x).length = k) : ∀ l : List α, (l.flatMap cl).length = l.length * k
  | [] => by simp
  | x :: l => by rw [List.flatMap_cons, List.length_append, hk, fm_len hk l, List.length_cons, Nat.add_mul]; omega
theorem fm_ok {α : Type} {cl : α → List Value} (hc : ∀ x l, cellsOK l = true → cellsOK (cl x ++ l) = true) : ∀ l : List α, cellsOK (l.flatMap cl) = true
  | [] => rfl
  | x :: l => by rw [List.flatMap_cons]; exact hc x _ (fm_ok hc l)
theorem fm_drop {α : Type} {cl : α → List Value} {k : Nat} (hk : ∀ x, (cl x).length = k) : ∀ (l : List α) (i : Nat), (l.flatMap cl).drop (i * k) = (l.drop i).flatMap cl
  | [], i => by simp
  | x :: l, 0 => by simp
  | x :: l, i + 1 => by
    rw [List.flatMap_cons, show (i + 1) * k = (cl x).length + i * k by rw [hk, Nat.add_mul]; omega, ← List.drop_drop, List.drop_left, fm_drop hk l i]; rfl
theorem fm_take {α : Type} {cl : α → List Value} {k : Nat} (hk : ∀ x, (cl x).length = k) : ∀ (l : List α) (i : Nat), (l.flatMap cl).take (i * k) = (l.take i).flatMap cl
  | [], i => by simp
  | x :: l, 0 => by simp
  | x :: l, i + 1 => by
    rw [List.flatMap_cons, show (i + 1) * k = (cl x).length + i * k by rw [hk, Nat.add_mul]; omega, List.take_length_add_append, fm_take hk l i]; rfl
theorem RowG.pre {α : Type} {cl : α → List Value} {k : Nat} (hk : ∀ x, (cl x).length = k) {xs : List Value} {o c : Nat} {l : List α} (h : RowG cl k xs o c l) {i : Nat} (hi : i ≤ l.length) : (xs.drop o).take (i * k) = (l.take i).flatMap cl := by
  rw [← fm_take hk, ← h.2.2, List.take_take]; congr 1; exact (Nat.min_eq_left (Nat.mul_le_mul_right k hi)).symm
theorem RowG.post {α : Type} {cl : α → List Value} {k : Nat} (hk : ∀ x, (cl x).length = k) {xs : List Value} {o c : Nat} {l : List α} (h : RowG cl k xs o c l) {i o2 : Nat} (hi : i ≤ l.length) (ho : o2 = if c = (i : Int).toNat then o else o + (i : Int).toNat * k) : (xs.drop o2).take ((l.length - i) * k) = (l.drop i).flatMap cl := by
  rw [show ((i : Int).toNat) = i from rfl] at ho
  by_cases hc : c = i
  · have := h.1
    rw [show l.length - i = 0 by omega, show l.drop i = [] from List.drop_eq_nil_of_le (by omega)]; simp
  · rw [if_neg hc] at ho
    rw [ho, ← fm_drop hk, ← h.2.2, List.drop_take, List.drop_drop, Nat.sub_mul]
theorem RowG.app {α : Type} {cl : α → List Value} {k : Nat} {xs zs ys : List Value} {o c o' cp n m : Nat} {d e : List α} (h : RowG cl k xs o c d) (hn : n = d.length) (hm : m = e.length) (hy : ys = e.flatMap cl) (h1 : n + m ≤ cp) (h2 : o' + cp * k ≤ zs.length) (h3 : (zs.drop o').take ((n + m) * k) = (xs.drop o).take (n * k) ++ ys) :
    RowG cl k zs o' cp (d ++ e) := by
  subst hn hm hy
  refine ⟨by rw [List.length_append]; exact h1, h2, ?_⟩
  rw [List.length_append, List.flatMap_append, h3, h.2.2]
theorem stcl_len (x : ST) : (stcl x).length = 19 := rfl
theorem stcl_ok (x : ST) (l : List Value) (h : cellsOK l = true) : cellsOK (stcl x ++ l) = true := by simpa [cellsOK] using h
def refE (w : RH) (s : ST) : Int :=
  bif !goodT s || decide (4 < s.kind) then 1 else bif has w.v s.rep s.n then 5 else
  bif !decide (s.n = w.v s.rep.toNat + 1) || (!leB s.seen w.v || decide ((w.R.length : Int) < s.reds)) then 8 else 0
def ltS (s t : ST) : Bool := ltB s.rep s.n t.rep t.n
structure InsAt (L : List ST) (s : ST) (k : Nat) : Prop where
  le : k ≤ L.length
  lo : ∀ j (hj : j < L.length), j < k → ltS L[j] s = true
  hi : ∀ (hk : k < L.length), ltS L[k] s = false
def insL (L : List ST) (s : ST) (k : Nat) : List ST := L.take k ++ [s] ++ L.drop k
def wB (w : RH) (s : ST) (k : Nat) : RH := { w with v := upv w.v s.rep.toNat s.n, L := insL w.L s k }
abbrev hoRL (w : RH) (q : RQ) (o c : Nat) : List SO := [.cells (vcells w.v ++ [.sl 8 o w.L.length c, .sl 2 q.r.o w.R.length q.r.c, .sl 3 q.u.o w.us.length q.u.c, .sl 4 q.p.o w.sp.length q.p.c, .sl 5 q.s.o w.su.length q.s.c, .sl 6 q.e.o w.cl.length q.e.c]) T_rostrumref24_House,
  .arr q.l.xs T_rostrumref24_Step, .arr q.r.xs T_rostrumref24_Step, .arr q.u.xs T_string, .arr q.p.xs T_string, .arr q.s.xs T_int64, .arr q.e.xs T_rostrumref24_outcome]
theorem insL_len {L : List ST} {s : ST} {k : Nat} (h : k ≤ L.length) : (insL L s k).length = 0 + k + 1 + (L.length - k) := by
  simp [insL]; omega
def RBluePost (h : Nat → Option Obj) (w : RH) (q : RQ) (s : ST) (r : SV) (H : List SO) : Prop :=
  (refE w s ≠ 0 ∧ r = iv (refE w s) ∧ H = hoR w q ++ [.heap h]) ∨
  (refE w s = 0 ∧ r = iv 0 ∧ ∃ k xs o c, InsAt w.L s k ∧ RowG stcl 19 xs o c (insL w.L s k) ∧ H = hoRL (wB w s k) q o c ++ [.heap h, .arr xs T_rostrumref24_Step])
set_option maxHeartbeats 4000000 in
theorem s_refBlue (h : Nat → Option Obj) (hu : Uni h) (w : RH) (q : RQ) (hk : RK w q) (hv : ∀ i, i < 7 → 0 ≤ w.v i ∧ w.v i ≤ 1099511627776) (s : ST) (h1 : s.name.size ≤ 1000) (h2 : s.user.size ≤ 1000) :
    Ctr Tryz.prog F_rostrumref24_House_Blue [.ptr 0 0, .agg (stcells s)] (hoR w q ++ [.heap h]) (RBluePost h w q s) := by
  have fin : ∀ (e : Int) (l : List SO), e ≠ 0 → refE w s = e → VRet 8 (iv e) (hoR w q ++ .heap h :: l) (RBluePost h w q s) := by
    intro e l he hb
    exact VRet.mk [0, 1, 2, 3, 4, 5, 6, 7] (iv e) (hoR w q ++ [.heap h]) ⟨rfl, rfl, rfl⟩ (.inl ⟨by rw [hb]; exact he, by rw [hb], rfl⟩)
  have fin2 : ∀ (k n : Nat) (zs : List Value) (o c : Nat) (Z A B C D : SO) (l : List SO), refE w s = 0 → InsAt w.L s k → n = 0 + k + 1 + (w.L.length - k) → RowG stcl 19 zs o c (insL w.L s k) →
      VRet 8 (iv 0) ([.cells (vcells (upv w.v s.rep.toNat s.n) ++ [.sl 13 o n c, .sl 2 q.r.o w.R.length q.r.c, .sl 3 q.u.o w.us.length q.u.c, .sl 4 q.p.o w.sp.length q.p.c, .sl 5 q.s.o w.su.length q.s.c, .sl 6 q.e.o w.cl.length q.e.c]) T_rostrumref24_House,
        .arr q.l.xs T_rostrumref24_Step, .arr q.r.xs T_rostrumref24_Step, .arr q.u.xs T_string, .arr q.p.xs T_string, .arr q.s.xs T_int64, .arr q.e.xs T_rostrumref24_outcome, .heap h, Z, A, B, C, D, .arr zs T_rostrumref24_Step] ++ l) (RBluePost h w q s) := by
    intro k n zs o c Z A B C D l he hI hn hr
    rw [← insL_len (s := s) hI.le] at hn
    subst hn
    exact VRet.mk [0, 1, 2, 3, 4, 5, 6, 7, 13] (iv 0) (hoRL (wB w s k) q o c ++ [.heap h, .arr zs T_rostrumref24_Step]) ⟨rfl, rfl, rfl⟩ (.inr ⟨he, rfl, k, zs, o, c, hI, hr, rfl⟩)
  refine i_rostrumref24_House_Blue.spec follows ?_
  refine VCall.mk [7] (s_refGood h hu s h1 h2) ⟨rfl, rfl, rfl⟩ ?_
  rintro _ _ ⟨rfl, rfl⟩
  refine And.intro (fun k1 => ?_) (fun k1 => fin 1 _ (by decide) (by have k1 := nT k1; rw [refE, k1]; rfl))
  have k1 := nF k1
  refine And.intro (fun k2 => fin 1 _ (by decide) (by rw [refE, show decide (4 < s.kind) = true from k2]; simp)) (fun k2 => ?_)
  have k2 : decide (4 < s.kind) = false := k2
  refine VCall.mk [] (s_ref_Has w.v s.rep s.n) ⟨rfl, rfl, rfl⟩ ?_
  rintro _ _ ⟨rfl, rfl⟩
  refine And.intro (fun k3 => fin 5 _ (by decide) (by rw [refE, k1, k2, show has w.v s.rep s.n = true from k3]; rfl)) (fun k3 => ?_)
  have k3 : has w.v s.rep s.n = false := k3
  have hdot := good_dot k1
  have hvr := hv s.rep.toNat (by omega)
  have hw : IntKind.i64.wrap (w.v s.rep.toNat + 1) = w.v s.rep.toNat + 1 := wrap64 (by omega)
  refine And.intro hdot.1 (Exists.intro _ (And.intro (vcells_get' w.v hdot.1 _) ?_))
  refine Exists.intro _ (And.intro hw ?_)
  refine And.intro (fun k4 => ?_) (fun k4 => fin 8 _ (by decide) (by have k4 : decide (s.n = w.v s.rep.toNat + 1) = false := nT k4
                                                                     rw [refE, k1, k2, k3, k4]; rfl))
  have k4 : decide (s.n = w.v s.rep.toNat + 1) = true := nF k4
  refine VCall.mk [] (s_ref_Le s.seen w.v) ⟨rfl, rfl, rfl⟩ ?_
  rintro _ _ ⟨rfl, rfl⟩
  refine And.intro (fun k5 => ?_) (fun k5 => fin 8 _ (by decide) (by have k5 : leB s.seen w.v = false := nT k5
                                                                     rw [refE, k1, k2, k3, k4, k5]; rfl))
  have k5 : leB s.seen w.v = true := nF k5
  refine And.intro (fun k6 => fin 8 _ (by decide) (by rw [refE, k1, k2, k3, k4, k5, show decide ((w.R.length : Int) < s.reds) = true from k6]; rfl)) (fun k6 => ?_)
  have he : refE w s = 0 := by rw [refE, k1, k2, k3, k4, k5, show decide ((w.R.length : Int) < s.reds) = false from k6]; rfl
  refine And.intro hdot.1 (Exists.intro _ (And.intro (vcells_put w.v s.n hdot.1 _) ?_))
  have hll := hk.ll
  refine VLoop.mk Nat (fun i => [(0, .ptr 0 0), (3, .ptr 8 0), (5, iv i)]) (fun _ => hoR { w with v := upv w.v s.rep.toNat s.n } q ++ [.heap h, .cells (stcells s) T_rostrumref24_Step])
    (fun i => i ≤ w.L.length ∧ ∀ j (hj : j < w.L.length), j < i → ltS w.L[j] s = true) (fun i => w.L.length - i) 0 [0, 1, 2, 3, 4, 5, 6, 7, 8] ⟨⟨Nat.zero_le _, fun j _ hj => absurd hj (Nat.not_lt_zero j)⟩, rfl, rfl, rfl⟩ ?_
  rintro i ⟨hi, hlo⟩ g
  have last : (∀ (hk : i < w.L.length), ltS w.L[i] s = false) → InsAt w.L s i := fun h => ⟨hi, hlo, h⟩
  refine And.intro (fun t1 => ?_) (fun t1 => ?_)
  · have t1 : (i : Int) < (w.L.length : Nat) := of_decide_eq_true t1
    have hil : i < w.L.length := by omega
    have hwi : IntKind.i64.wrap ((i : Int) + 1) = ((i + 1 : Nat) : Int) := wrap64 (by omega)
    have hx1 := cut_sub (hk.l.cut (fun _ => rfl) hil) 1 2 (by omega)
    have hni : (0 : Int) ≤ (i : Int) ∧ (i : Int) < (w.L.length : Nat) ∧ q.l.o + w.L.length * 19 ≤ q.l.xs.length := ⟨Int.natCast_nonneg i, t1, RowG.room hk.l⟩
    refine And.intro hni (Exists.intro _ (And.intro (by rw [Int.toNat_natCast]; exact hx1) ?_))
    refine VCall.mk [] (s_ref_Less w.L[i].rep w.L[i].n s.rep s.n) ⟨rfl, rfl, rfl⟩ ?_
    rintro _ _ ⟨rfl, rfl⟩
    refine And.intro (fun t2 => ?_) (fun t2 => ?_)
    · refine Exists.intro _ (And.intro hwi ?_)
      refine Exists.intro (i + 1) (Exists.intro [0, 1, 2, 3, 4, 5, 6, 7, 8] (And.intro ⟨⟨hil, fun j hj hji => ?_⟩, by omega⟩ ⟨rfl, rfl, rfl⟩))
      by_cases e : j = i
      · subst e; exact t2
      · exact hlo j hj (by omega)
    · have hI := last (fun _ => t2)
      have hP := RowG.pre stcl_len hk.l hi
      have dP : (List.take (i * 19) (List.drop q.l.o q.l.xs)).length = i * 19 ∧ cellsOK (List.take (i * 19) (List.drop q.l.o q.l.xs)) = true := by
        rw [hP]; exact ⟨by rw [fm_len stcl_len, List.length_take]; congr 1; omega, fm_ok stcl_ok _⟩
      refine And.intro ⟨Int.natCast_nonneg i, by have := hk.l.1; omega⟩ (And.intro ⟨Int.natCast_nonneg i, by simp only; omega⟩ ?_)
      refine Exists.elim (⟨_, rfl⟩ : ∃ o', o' = if q.l.c = (i : Int).toNat then q.l.o else q.l.o + (i : Int).toNat * 19) fun o2 ho2 => ?_
      refine Exists.intro o2 (And.intro ho2 ?_)
      have hQ := RowG.post stcl_len hk.l hi ho2
      have dQ : (List.take ((w.L.length - i) * 19) (List.drop o2 q.l.xs)).length = (w.L.length - i) * 19 ∧ cellsOK (List.take ((w.L.length - i) * 19) (List.drop o2 q.l.xs)) = true := by
        rw [hQ]; exact ⟨by rw [fm_len stcl_len, List.length_drop], fm_ok stcl_ok _⟩
      have hlT : (w.L.take i).length = i := by rw [List.length_take]; omega
      have hlD : (w.L.drop i).length = w.L.length - i := by rw [List.length_drop]
      have hb1 : (0 + i) * 168 ≤ 1099511627776 := by omega
      have hb2 : (0 + i + 1) * 168 ≤ 1099511627776 := by omega
      have hb3 : (0 + i + 1 + (w.L.length - i)) * 168 ≤ 1099511627776 := by omega
      have nil0 : RowG stcl 19 [] 0 0 [] := RowG.nilS
      refine And.intro ?a ?b
      case a =>
        refine And.intro rfl (And.intro rfl (And.intro rfl (And.intro rfl (And.intro rfl ?_))))
        refine And.intro ?c ?d
        case c =>
          refine And.intro ⟨⟨Nat.zero_le _, by simp, rfl⟩, dP, hb1⟩ ?_
          intro zs1 o1 c1 hz1
          have hr1 := RowG.app nil0 rfl hlT.symm hP hz1.1 hz1.2.1 hz1.2.2
          refine And.intro rfl (And.intro rfl (And.intro rfl ?_))
          refine And.intro rfl (And.intro rfl ?_)
          refine And.intro ⟨⟨hz1.1, hz1.2.1, rfl⟩, ⟨rfl, rfl⟩, hb2⟩ ?_
          intro zs2 o2 c2 hz2
          have hr2 := RowG.snoc (x := s) hr1 (by simp [hlT]) hz2.1 hz2.2.1 hz2.2.2
          refine And.intro rfl (And.intro rfl ?_)
          refine And.intro ⟨⟨hz2.1, hz2.2.1, rfl⟩, dQ, hb3⟩ ?_
          intro zs3 o3 c3 hz3
          have hr3 := RowG.app hr2 (by simp [hlT]) hlD.symm hQ hz3.1 hz3.2.1 hz3.2.2
          exact fin2 i _ zs3 o3 c3 _ _ _ _ _ _ he hI rfl hr3
        case d =>
          refine And.intro rfl (And.intro rfl (And.intro rfl (And.intro rfl ?_)))
          refine And.intro ⟨⟨Nat.zero_le _, by simp, rfl⟩, dP, hb1⟩ ?_
          intro zs1 o1 c1 hz1
          have hr1 := RowG.app nil0 rfl hlT.symm hP hz1.1 hz1.2.1 hz1.2.2
          refine And.intro rfl (And.intro rfl ?_)
          refine And.intro ⟨⟨hz1.1, hz1.2.1, rfl⟩, ⟨rfl, rfl⟩, hb2⟩ ?_
          intro zs2 o2 c2 hz2
          have hr2 := RowG.snoc (x := s) hr1 (by simp [hlT]) hz2.1 hz2.2.1 hz2.2.2
          refine And.intro rfl (And.intro rfl ?_)
          refine And.intro ⟨⟨hz2.1, hz2.2.1, rfl⟩, dQ, hb3⟩ ?_
          intro zs3 o3 c3 hz3
          have hr3 := RowG.app hr2 (by simp [hlT]) hlD.symm hQ hz3.1 hz3.2.1 hz3.2.2
          exact fin2 i _ zs3 o3 c3 _ _ _ _ _ _ he hI rfl hr3
      case b =>
        refine And.intro rfl (And.intro rfl (And.intro rfl (And.intro rfl ?_)))
        refine And.intro rfl (And.intro rfl (And.intro rfl (And.intro rfl ?_)))
        refine And.intro ⟨⟨Nat.zero_le _, by simp, rfl⟩, dP, hb1⟩ ?_
        intro zs1 o1 c1 hz1
        have hr1 := RowG.app nil0 rfl hlT.symm hP hz1.1 hz1.2.1 hz1.2.2
        refine And.intro rfl (And.intro rfl ?_)
        refine And.intro ⟨⟨hz1.1, hz1.2.1, rfl⟩, ⟨rfl, rfl⟩, hb2⟩ ?_
        intro zs2 o2 c2 hz2
        have hr2 := RowG.snoc (x := s) hr1 (by simp [hlT]) hz2.1 hz2.2.1 hz2.2.2
        refine And.intro rfl (And.intro rfl ?_)
        refine And.intro ⟨⟨hz2.1, hz2.2.1, rfl⟩, dQ, hb3⟩ ?_
        intro zs3 o3 c3 hz3
        have hr3 := RowG.app hr2 (by simp [hlT]) hlD.symm hQ hz3.1 hz3.2.1 hz3.2.2
        exact fin2 i _ zs3 o3 c3 _ _ _ _ _ _ he hI rfl hr3
  · have hil : i = w.L.length := by have t1 := of_decide_eq_false t1; simp only at t1; omega
    have hI := last (fun h => absurd h (by omega))
    have hP := RowG.pre stcl_len hk.l hi
    have dP : (List.take (i * 19) (List.drop q.l.o q.l.xs)).length = i * 19 ∧ cellsOK (List.take (i * 19) (List.drop q.l.o q.l.xs)) = true := by
      rw [hP]; exact ⟨by rw [fm_len stcl_len, List.length_take]; congr 1; omega, fm_ok stcl_ok _⟩
    refine And.intro ⟨Int.natCast_nonneg i, by have := hk.l.1; omega⟩ (And.intro ⟨Int.natCast_nonneg i, by simp only; omega⟩ ?_)
    refine Exists.elim (⟨_, rfl⟩ : ∃ o', o' = if q.l.c = (i : Int).toNat then q.l.o else q.l.o + (i : Int).toNat * 19) fun o2 ho2 => ?_
    refine Exists.intro o2 (And.intro ho2 ?_)
    have hQ := RowG.post stcl_len hk.l hi ho2
    have dQ : (List.take ((w.L.length - i) * 19) (List.drop o2 q.l.xs)).length = (w.L.length - i) * 19 ∧ cellsOK (List.take ((w.L.length - i) * 19) (List.drop o2 q.l.xs)) = true := by
      rw [hQ]; exact ⟨by rw [fm_len stcl_len, List.length_drop], fm_ok stcl_ok _⟩
    have hlT : (w.L.take i).length = i := by rw [List.length_take]; omega
    have hlD : (w.L.drop i).length = w.L.length - i := by rw [List.length_drop]
    have hb1 : (0 + i) * 168 ≤ 1099511627776 := by omega
    have hb2 : (0 + i + 1) * 168 ≤ 1099511627776 := by omega
    have hb3 : (0 + i + 1 + (w.L.length - i)) * 168 ≤ 1099511627776 := by omega
    have nil0 : RowG stcl 19 [] 0 0 [] := RowG.nilS
    refine And.intro ?a ?b
    case a =>
      refine And.intro rfl (And.intro rfl (And.intro rfl (And.intro rfl (And.intro rfl ?_))))
      refine And.intro ?c ?d
      case c =>
        refine And.intro ⟨⟨Nat.zero_le _, by simp, rfl⟩, dP, hb1⟩ ?_
        intro zs1 o1 c1 hz1
        have hr1 := RowG.app nil0 rfl hlT.symm hP hz1.1 hz1.2.1 hz1.2.2
        refine And.intro rfl (And.intro rfl (And.intro rfl ?_))
        refine And.intro rfl (And.intro rfl ?_)
        refine And.intro ⟨⟨hz1.1, hz1.2.1, rfl⟩, ⟨rfl, rfl⟩, hb2⟩ ?_
        intro zs2 o2 c2 hz2
        have hr2 := RowG.snoc (x := s) hr1 (by simp [hlT]) hz2.1 hz2.2.1 hz2.2.2
        refine And.intro rfl (And.intro rfl ?_)
        refine And.intro ⟨⟨hz2.1, hz2.2.1, rfl⟩, dQ, hb3⟩ ?_
        intro zs3 o3 c3 hz3
        have hr3 := RowG.app hr2 (by simp [hlT]) hlD.symm hQ hz3.1 hz3.2.1 hz3.2.2
        exact fin2 i _ zs3 o3 c3 _ _ _ _ _ _ he hI rfl hr3
      case d =>
        refine And.intro rfl (And.intro rfl (And.intro rfl (And.intro rfl ?_)))
        refine And.intro ⟨⟨Nat.zero_le _, by simp, rfl⟩, dP, hb1⟩ ?_
        intro zs1 o1 c1 hz1
        have hr1 := RowG.app nil0 rfl hlT.symm hP hz1.1 hz1.2.1 hz1.2.2
        refine And.intro rfl (And.intro rfl ?_)
        refine And.intro ⟨⟨hz1.1, hz1.2.1, rfl⟩, ⟨rfl, rfl⟩, hb2⟩ ?_
        intro zs2 o2 c2 hz2
        have hr2 := RowG.snoc (x := s) hr1 (by simp [hlT]) hz2.1 hz2.2.1 hz2.2.2
        refine And.intro rfl (And.intro rfl ?_)
        refine And.intro ⟨⟨hz2.1, hz2.2.1, rfl⟩, dQ, hb3⟩ ?_
        intro zs3 o3 c3 hz3
        have hr3 := RowG.app hr2 (by simp [hlT]) hlD.symm hQ hz3.1 hz3.2.1 hz3.2.2
        exact fin2 i _ zs3 o3 c3 _ _ _ _ _ _ he hI rfl hr3
    case b =>
      refine And.intro rfl (And.intro rfl (And.intro rfl (And.intro rfl ?_)))
      refine And.intro rfl (And.intro rfl (And.intro rfl (And.intro rfl ?_)))
      refine And.intro ⟨⟨Nat.zero_le _, by simp, rfl⟩, dP, hb1⟩ ?_
      intro zs1 o1 c1 hz1
      have hr1 := RowG.app nil0 rfl hlT.symm hP hz1.1 hz1.2.1 hz1.2.2
      refine And.intro rfl (And.intro rfl ?_)
      refine And.intro ⟨⟨hz1.1, hz1.2.1, rfl⟩, ⟨rfl, rfl⟩, hb2⟩ ?_
      intro zs2 o2 c2 hz2
      have hr2 := RowG.snoc (x := s) hr1 (by simp [hlT]) hz2.1 hz2.2.1 hz2.2.2
      refine And.intro rfl (And.intro rfl ?_)
      refine And.intro ⟨⟨hz2.1, hz2.2.1, rfl⟩, dQ, hb3⟩ ?_
      intro zs3 o3 c3 hz3
      have hr3 := RowG.app hr2 (by simp [hlT]) hlD.symm hQ hz3.1 hz3.2.1 hz3.2.2
      exact fin2 i _ zs3 o3 c3 _ _ _ _ _ _ he hI rfl hr3
end Go.Proofs

