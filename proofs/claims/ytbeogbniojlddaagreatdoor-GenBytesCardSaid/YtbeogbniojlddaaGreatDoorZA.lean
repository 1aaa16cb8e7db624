/- Part of the proof that the statement named in the last file holds: lemmas of the prover's own. No conditions. -/
import Derived.Test.YtbeogbniojlddaaGreatDoorDC
namespace Go.Proofs
open Go Go.V Go.Lib
set_option maxRecDepth 100000
set_option linter.unusedVariables false

/-! ### The document's own clocks and dots -/
theorem s_ref_May (r n : Int) : Ctr Tryz.prog F_rostrumref7_May [.agg (dcells r n)] [] (fun v H => v = bv (isDot r n) ∧ H = []) := by
  refine i_rostrumref7_May.spec follows ?_
  refine And.intro (fun h1 => ?_) (fun h1 => ?_)
  · refine And.intro (fun h2 => ?_) (fun h2 => ?_)
    · refine And.intro (fun h3 => ?_) (fun h3 => ?_)
      · refine VRet.mk [] (bv _) [] ⟨rfl, rfl, rfl⟩ ⟨?_, rfl⟩
        show bv _ = bv _
        have h1 := of_decide_eq_true h1; have h2 := of_decide_eq_true h2; have h3 := of_decide_eq_true h3
        simp [isDot, isRep, h1, h2, h3]
      · refine VRet.mk [] (bv _) [] ⟨rfl, rfl, rfl⟩ ⟨?_, rfl⟩
        show bv _ = bv _
        have h3 := of_decide_eq_false h3
        simp [isDot, isRep, h3]
    · refine VRet.mk [] (bv _) [] ⟨rfl, rfl, rfl⟩ ⟨?_, rfl⟩
      show bv _ = bv _
      have h2 := of_decide_eq_false h2
      simp [isDot, isRep, h2]
  · refine VRet.mk [] (bv _) [] ⟨rfl, rfl, rfl⟩ ⟨?_, rfl⟩
    show bv _ = bv _
    have h1 := of_decide_eq_false h1
    simp [isDot, isRep, h1]
theorem s_ref_Has (v : Nat → Int) (r n : Int) : Ctr Tryz.prog F_rostrumref7_Has [.agg (vcells v), .agg (dcells r n)] [] (fun x H => x = bv (has v r n) ∧ H = []) := by
  refine i_rostrumref7_Has.spec follows ?_
  refine And.intro (fun h1 => ?_) (fun h1 => ?_)
  · refine And.intro (fun h2 => ?_) (fun h2 => ?_)
    · have hr : 0 ≤ r ∧ r < 7 := ⟨of_decide_eq_true h1, of_decide_eq_true h2⟩
      refine And.intro (fun h3 => ?_) (fun h3 => ?_)
      · refine And.intro hr (Exists.intro _ (And.intro (vcells_get' v hr []) ?_))
        refine VRet.mk [] (bv _) [] ⟨rfl, rfl, rfl⟩ ⟨?_, rfl⟩
        show bv _ = bv _
        have h3 := of_decide_eq_true h3
        simp [has, isRep, hr, h3]
      · refine VRet.mk [] (bv _) [] ⟨rfl, rfl, rfl⟩ ⟨?_, rfl⟩
        show bv _ = bv _
        have h3 := of_decide_eq_false h3
        simp [has, isRep, h3]
    · refine VRet.mk [] (bv _) [] ⟨rfl, rfl, rfl⟩ ⟨?_, rfl⟩
      show bv _ = bv _
      have h2 := of_decide_eq_false h2
      simp [has, isRep, h2]
  · refine VRet.mk [] (bv _) [] ⟨rfl, rfl, rfl⟩ ⟨?_, rfl⟩
    show bv _ = bv _
    have h1 := of_decide_eq_false h1
    simp [has, isRep, h1]
theorem s_ref_Le (v w : Nat → Int) : Ctr Tryz.prog F_rostrumref7_Le [.agg (vcells v), .agg (vcells w)] [] (fun x H => x = bv (leB v w) ∧ H = []) := by
  refine i_rostrumref7_Le.spec follows ?_
  refine VLoop.mk Nat (fun i => [(2, .ptr 0 0), (3, .ptr 1 0), (5, iv i)]) (fun i => [.cells (vcells v) T_rostrumref7_Vec, .cells (vcells w) T_rostrumref7_Vec]) (fun i => i ≤ 7 ∧ ∀ j, j < i → v j ≤ w j) (fun i => 7 - i) 0 [0, 1]
    ⟨⟨by omega, fun j hj => by omega⟩, rfl, rfl, rfl⟩ ?_
  rintro i ⟨hi, hd⟩ g
  refine And.intro (fun h => ?_) (fun h => ?_)
  · have h := of_decide_eq_true h
    have hi7 : 0 ≤ (i : Int) ∧ (i : Int) < 7 := ⟨by omega, h⟩
    have hw : IntKind.i64.wrap ((i : Int) + 1) = ((i + 1 : Nat) : Int) := wrap64 (by omega)
    refine And.intro hi7 (Exists.intro _ (And.intro (vcells_get' v hi7 []) ?_))
    refine And.intro hi7 (Exists.intro _ (And.intro (vcells_get' w hi7 []) ?_))
    refine And.intro (fun h2 => ?_) (fun h2 => ?_)
    · have h2 := of_decide_eq_true h2
      refine VRet.mk [] (bv false) [] ⟨rfl, rfl, rfl⟩ ⟨?_, rfl⟩
      have : leB v w = false := by
        rw [Bool.eq_false_iff, Ne, leB_iff]
        intro hh
        have := hh i (by omega)
        rw [Int.toNat_natCast] at h2
        omega
      rw [this]
    · have h2 := of_decide_eq_false h2
      refine Exists.intro _ (And.intro hw ?_)
      refine Exists.intro (i + 1) (Exists.intro [0, 1] (And.intro ⟨⟨by omega, fun j hj => ?_⟩, by omega⟩ ⟨rfl, rfl, rfl⟩))
      rw [Int.toNat_natCast] at h2
      by_cases e : j = i
      · subst e; omega
      · exact hd j (by omega)
  · have h := of_decide_eq_false h
    have h7 : i = 7 := by omega
    subst h7
    refine VRet.mk [] (bv true) [] ⟨rfl, rfl, rfl⟩ ⟨?_, rfl⟩
    rw [leB_iff.2 hd]
theorem s_ref_Vgood (v : Nat → Int) : Ctr Tryz.prog F_rostrumref7_Good [.agg (vcells v)] [] (fun x H => x = bv (vgoodB v) ∧ H = []) := by
  refine i_rostrumref7_Good.spec follows ?_
  refine VLoop.mk Nat (fun i => [(1, .ptr 0 0), (3, iv i)]) (fun i => [.cells (vcells v) T_rostrumref7_Vec]) (fun i => i ≤ 7 ∧ ∀ j, j < i → 0 ≤ v j ∧ v j ≤ 1099511627776) (fun i => 7 - i) 0 [0]
    ⟨⟨by omega, fun j hj => by omega⟩, rfl, rfl, rfl⟩ ?_
  rintro i ⟨hi, hd⟩ g
  have bad : ∀ k, k < 7 → ¬ (0 ≤ v k ∧ v k ≤ 1099511627776) → vgoodB v = false := by
    intro k hk hn
    rw [Bool.eq_false_iff, Ne, vgoodB_iff]
    exact fun hh => hn (hh k hk)
  refine And.intro (fun h => ?_) (fun h => ?_)
  · have h := of_decide_eq_true h
    have hi7 : 0 ≤ (i : Int) ∧ (i : Int) < 7 := ⟨by omega, h⟩
    have hw : IntKind.i64.wrap ((i : Int) + 1) = ((i + 1 : Nat) : Int) := wrap64 (by omega)
    refine And.intro hi7 (Exists.intro _ (And.intro (vcells_get' v hi7 []) ?_))
    refine And.intro (fun h1 => ?_) (fun h1 => ?_)
    · have h1 := of_decide_eq_false h1
      refine And.intro hi7 (Exists.intro _ (And.intro (vcells_get' v hi7 []) ?_))
      refine And.intro (fun h2 => ?_) (fun h2 => ?_)
      · have h2 := of_decide_eq_true h2
        refine VRet.mk [] (bv false) [] ⟨rfl, rfl, rfl⟩ ⟨?_, rfl⟩
        rw [Int.toNat_natCast] at h2
        rw [bad i (by omega) (by omega)]
      · have h2 := of_decide_eq_false h2
        refine Exists.intro _ (And.intro hw ?_)
        refine Exists.intro (i + 1) (Exists.intro [0] (And.intro ⟨⟨by omega, fun j hj => ?_⟩, by omega⟩ ⟨rfl, rfl, rfl⟩))
        by_cases hji : j = i
        · subst hji; rw [Int.toNat_natCast] at h1 h2; omega
        · exact hd j (by omega)
    · have h1 := of_decide_eq_true h1
      refine VRet.mk [] (bv false) [] ⟨rfl, rfl, rfl⟩ ⟨?_, rfl⟩
      rw [Int.toNat_natCast] at h1
      rw [bad i (by omega) (by omega)]
  · have h := of_decide_eq_false h
    have h7 : i = 7 := by omega
    subst h7
    refine VRet.mk [] (bv true) [] ⟨rfl, rfl, rfl⟩ ⟨?_, rfl⟩
    rw [vgoodB_iff.2 hd]
def ltB (a b c d : Int) : Bool := decide (a < c) || (decide (a = c) && decide (b < d))
theorem s_ref_Less (a b c d : Int) : Ctr Tryz.prog F_rostrumref7_Less [.agg (dcells a b), .agg (dcells c d)] [] (fun x H => x = bv (ltB a b c d) ∧ H = []) := by
  refine i_rostrumref7_Less.spec follows ?_
  refine And.intro (fun h1 => ?_) (fun h1 => ?_)
  · refine And.intro (fun h2 => ?_) (fun h2 => ?_)
    · refine VRet.mk [] (bv _) [] ⟨rfl, rfl, rfl⟩ ⟨?_, rfl⟩
      show bv _ = bv _
      rw [ltB, show decide (a < c) = false from h1, show decide (a = c) = true from h2]; rfl
    · refine VRet.mk [] (bv _) [] ⟨rfl, rfl, rfl⟩ ⟨?_, rfl⟩
      show bv _ = bv _
      rw [ltB, show decide (a < c) = false from h1, show decide (a = c) = false from h2]; rfl
  · refine VRet.mk [] (bv _) [] ⟨rfl, rfl, rfl⟩ ⟨?_, rfl⟩
    show bv _ = bv _
    rw [ltB, show decide (a < c) = true from h1]; rfl
end Go.Proofs

namespace Go.Proofs
open Go Go.V Go.Lib
set_option maxRecDepth 100000
set_option linter.unusedVariables false

/-! ### The document's own house -/
structure RH where
  v : Nat → Int
  L : List ST
  R : List ST
  us : List ByteArray
  sp : List ByteArray
  su : List Int
  cl : List ((Int × Int) × OC)
/-- Where a row lies. -/
structure Rw where
  xs : List Value
  o : Nat
  c : Nat
structure RQ where
  l : Rw
  r : Rw
  u : Rw
  p : Rw
  s : Rw
  e : Rw
def bcl (t : ByteArray) : List Value := [.string t]
def ncl (n : Int) : List Value := [.int .i64 n]
def ecl (e : (Int × Int) × OC) : List Value := [.int .i64 e.1.1, .int .i64 e.1.2, .int .i64 e.2.br, .int .i64 e.2.bn, .string e.2.user, .int .i64 e.2.amount]
abbrev hoR (w : RH) (q : RQ) : List SO := [.cells (vcells w.v ++ [.sl 1 q.l.o w.L.length q.l.c, .sl 2 q.r.o w.R.length q.r.c, .sl 3 q.u.o w.us.length q.u.c, .sl 4 q.p.o w.sp.length q.p.c, .sl 5 q.s.o w.su.length q.s.c, .sl 6 q.e.o w.cl.length q.e.c]) T_rostrumref24_House,
  .arr q.l.xs T_rostrumref24_Step, .arr q.r.xs T_rostrumref24_Step, .arr q.u.xs T_string, .arr q.p.xs T_string, .arr q.s.xs T_int64, .arr q.e.xs T_rostrumref24_outcome]
structure RK (w : RH) (q : RQ) : Prop where
  l : RowG stcl 19 q.l.xs q.l.o q.l.c w.L
  r : RowG stcl 19 q.r.xs q.r.o q.r.c w.R
  u : RowG bcl 1 q.u.xs q.u.o q.u.c w.us
  p : RowG bcl 1 q.p.xs q.p.o q.p.c w.sp
  s : RowG ncl 1 q.s.xs q.s.o q.s.c w.su
  e : RowG ecl 6 q.e.xs q.e.o q.e.c w.cl
  ll : w.L.length ≤ 1000
  rl : w.R.length ≤ 1000
  ul : w.us.length ≤ 1000
  pl : w.sp.length ≤ 1000
  sl : w.su.length = w.sp.length
  el : w.cl.length ≤ 1000
theorem RowG.room {α : Type} {cl : α → List Value} {k : Nat} {xs : List Value} {o c : Nat} {d : List α} (h : RowG cl k xs o c d) : o + d.length * k ≤ xs.length := by
  have := h.2.1
  have := Nat.mul_le_mul_right k h.1
  omega
def regF (w : RH) (f : ByteArray) : Bool := w.us.any fun t => decide (t = f)
theorem s_Registered (h : Nat → Option Obj) (hc : CaseH h) (w : RH) (q : RQ) (hk : RK w q) (u : ByteArray) (hu : u.size ≤ 100000000) :
    Ctr Tryz.prog F_rostrumref24_House_Registered [.ptr 0 0, .raw (.string u)] (hoR w q ++ [.heap h]) (fun r H => r = bv (regF w (foldB u)) ∧ H = hoR w q ++ [.heap h]) := by
  have fin : ∀ (b : Bool) (l : List SO), b = regF w (foldB u) → VRet 8 (bv b) (hoR w q ++ .heap h :: l) (fun r H => r = bv (regF w (foldB u)) ∧ H = hoR w q ++ [.heap h]) := by
    rintro b l rfl
    exact VRet.mk [0, 1, 2, 3, 4, 5, 6, 7] _ (hoR w q ++ [.heap h]) ⟨rfl, rfl, rfl⟩ ⟨rfl, rfl⟩
  refine i_rostrumref24_House_Registered.spec follows ?_
  refine VCall.mk [7] (s_ref_Fold h hc u hu) ⟨rfl, rfl, rfl⟩ ?_
  rintro _ _ ⟨rfl, rfl⟩
  refine VLoop.mk Nat (fun i => [(0, .ptr 0 0), (5, .raw (.string (foldB u))), (6, iv i)]) (fun _ => hoR w q ++ [.heap h]) (fun i => i ≤ w.us.length ∧ ∀ k (hk : k < w.us.length), k < i → w.us[k] ≠ foldB u) (fun i => w.us.length - i) 0 [0, 1, 2, 3, 4, 5, 6, 7]
    ⟨⟨Nat.zero_le _, fun k _ hk => absurd hk (Nat.not_lt_zero k)⟩, rfl, rfl, rfl⟩ ?_
  rintro i ⟨hi, hno⟩ g
  have hul := hk.ul
  refine And.intro (fun t1 => ?_) (fun t1 => ?_)
  · have t1 : (i : Int) < (w.us.length : Nat) := of_decide_eq_true t1
    have hil : i < w.us.length := by omega
    have hwi : IntKind.i64.wrap ((i : Int) + 1) = ((i + 1 : Nat) : Int) := wrap64 (by omega)
    have hx := RowG.one hk.u (fun _ => rfl) hil
    refine And.intro ⟨Int.natCast_nonneg i, t1, (RowG.room hk.u)⟩ (Exists.intro _ (And.intro (by rw [Int.toNat_natCast]; exact hx) ?_))
    refine And.intro (fun t2 => ?_) (fun t2 => ?_)
    · rw [strB] at t2
      have t2 : w.us[i] = foldB u := of_decide_eq_true t2
      exact fin true _ (List.any_eq_true.2 ⟨_, List.getElem_mem hil, decide_eq_true t2⟩).symm
    · rw [strB] at t2
      have t2 : ¬ w.us[i] = foldB u := of_decide_eq_false t2
      refine Exists.intro _ (And.intro hwi ?_)
      refine Exists.intro (i + 1) (Exists.intro [0, 1, 2, 3, 4, 5, 6, 7] (And.intro ⟨⟨hil, fun k hkl hk1 => ?_⟩, by omega⟩ ⟨rfl, rfl, rfl⟩))
      by_cases e : k = i
      · subst e; exact t2
      · exact hno k hkl (by omega)
  · have hil : i = w.us.length := by have t1 := of_decide_eq_false t1; omega
    refine fin false _ (Bool.eq_false_iff.2 fun hm => ?_).symm
    obtain ⟨t, ht, he⟩ := List.any_eq_true.1 hm
    obtain ⟨k, hkl, rfl⟩ := List.mem_iff_getElem.1 ht
    exact hno k hkl (by omega) (of_decide_eq_true he)
end Go.Proofs

namespace Go.Proofs
open Go Go.V Go.Lib
set_option maxRecDepth 100000
set_option linter.unusedVariables false

theorem cut_sub {xs : List Value} {o n : Nat} {l : List Value} (h : V.cut xs o n = some l) (j k : Nat) (hk : j + k ≤ n) : V.cut xs (o + j) k = some ((l.drop j).take k) := by
  obtain ⟨h1, h2⟩ := cut_spec h
  by_cases h0 : k = 0
  · subst h0
    simp only [List.take_zero]
    cases xs <;> cases (o + j) <;> rfl
  · have hlen : o + j + k ≤ xs.length := by
      have h3 := h2 (j + k - 1) (by omega)
      have h4 : j + k - 1 < l.length := by omega
      rw [List.getElem?_eq_getElem h4] at h3
      have := (List.getElem?_eq_some_iff.1 h3.symm).1
      omega
    rw [cut_take xs (o + j) k hlen]
    congr 1
    apply List.ext_getElem?
    intro i
    by_cases hi : i < k
    · rw [List.getElem?_take_of_lt hi, List.getElem?_drop, List.getElem?_take_of_lt hi, List.getElem?_drop, h2 (j + i) (by omega)]
      congr 1; omega
    · rw [List.getElem?_eq_none (by simp; omega), List.getElem?_eq_none (by simp; omega)]

set_option maxHeartbeats 2000000 in
theorem find_at {α : Type} {p : α → Bool} : ∀ {l : List α} {i : Nat} (hi : i < l.length), (∀ k (hk : k < l.length), k < i → p l[k] = false) → p l[i] = true → l.find? p = some l[i]
  | a :: l, 0, _, _, h => by simp only [List.getElem_cons_zero] at h ⊢; simp [h]
  | a :: l, i + 1, hi, h0, h => by
    have ha : p a = false := h0 0 (by simp) (by omega)
    rw [List.find?_cons, ha]
    simp only [List.getElem_cons_succ] at h ⊢
    exact find_at (by simpa using hi) (fun k hk hki => h0 (k + 1) (by simp; omega) (by omega)) h
theorem find_no {α : Type} {p : α → Bool} {l : List α} (h : ∀ k (hk : k < l.length), p l[k] = false) : l.find? p = none := by
  rw [List.find?_eq_none]
  intro x hx
  obtain ⟨k, hk, rfl⟩ := List.mem_iff_getElem.1 hx
  simp [h k hk]
def isD (d : Int × Int) (s : ST) : Bool := decide (s.rep = d.1) && decide (s.n = d.2)
def findR (w : RH) (k : Int) (d : Int × Int) : Option ST := w.L.find? fun s => isD d s && decide (s.kind = k)
def winR (w : RH) (d : Int × Int) : Option OC := (w.cl.find? fun e => decide (e.1.1 = d.1) && decide (e.1.2 = d.2)).map (·.2)
theorem s_find (w : RH) (q : RQ) (hk : RK w q) (kd : Int) (d : Int × Int) :
    Ctr Tryz.prog F_rostrumref24_House_find [.ptr 0 0, iv kd, .agg (dcells d.1 d.2)] (hoR w q) (fun r H => r = .tup [.agg (stcells ((findR w kd d).getD zeroT')), bv (findR w kd d).isSome] ∧ H = hoR w q) := by
  have fin : ∀ (o : Option ST) (l : List SO), o = findR w kd d → VRet 7 (.tup [.agg (stcells (o.getD zeroT')), bv o.isSome]) (hoR w q ++ l) (fun r H => r = .tup [.agg (stcells ((findR w kd d).getD zeroT')), bv (findR w kd d).isSome] ∧ H = hoR w q) := by
    rintro o l rfl
    exact VRet.mk [0, 1, 2, 3, 4, 5, 6] _ (hoR w q) ⟨rfl, rfl, rfl⟩ ⟨rfl, rfl⟩
  refine i_rostrumref24_House_find.spec follows ?_
  refine VLoop.mk Nat (fun i => [(0, .ptr 0 0), (1, iv kd), (5, .ptr 7 0), (6, .ptr 8 0), (8, iv i)]) (fun _ => hoR w q ++ [.cells (dcells d.1 d.2) T_api_Dot, .cells (stcells zeroT') T_rostrumref24_Step]) (fun i => i ≤ w.L.length ∧ ∀ k (hk : k < w.L.length), k < i → (isD d w.L[k] && decide (w.L[k].kind = kd)) = false) (fun i => w.L.length - i) 0 [0, 1, 2, 3, 4, 5, 6, 7, 8]
    ⟨⟨Nat.zero_le _, fun k _ hk => absurd hk (Nat.not_lt_zero k)⟩, rfl, rfl, rfl⟩ ?_
  rintro i ⟨hi, hno⟩ g
  have hul := hk.ll
  refine And.intro (fun t1 => ?_) (fun t1 => ?_)
  · have t1 : (i : Int) < (w.L.length : Nat) := of_decide_eq_true t1
    have hil : i < w.L.length := by omega
    have hwi : IntKind.i64.wrap ((i : Int) + 1) = ((i + 1 : Nat) : Int) := wrap64 (by omega)
    have hx := hk.l.cut (fun _ => rfl) hil
    have hx2 := cut_sub hx 1 2 (by omega)
    have h0 := hk.l.at (fun _ => rfl) hil (j := 0) (by omega)
    have next : (isD d w.L[i] && decide (w.L[i].kind = kd)) = false → (i + 1 ≤ w.L.length ∧ ∀ k (hk : k < w.L.length), k < i + 1 → (isD d w.L[k] && decide (w.L[k].kind = kd)) = false) := fun hq => ⟨hil, fun k hkl hk1 => by
      by_cases e : k = i
      · subst e; exact hq
      · exact hno k hkl (by omega)⟩
    refine And.intro ⟨Int.natCast_nonneg i, t1, (RowG.room hk.l)⟩ (Exists.intro _ (And.intro (by rw [Int.toNat_natCast]; exact hx2) ?_))
    refine And.intro (fun t2 => ?_) (fun t2 => ?_)
    · have t2 : isD d w.L[i] = true := t2
      refine And.intro ⟨Int.natCast_nonneg i, t1, RowG.room hk.l⟩ (Exists.intro _ (And.intro (by rw [Int.toNat_natCast]; exact h0) ?_))
      refine And.intro (fun t3 => ?_) (fun t3 => ?_)
      · have t3 : decide (w.L[i].kind = kd) = true := t3
        refine And.intro ⟨Int.natCast_nonneg i, t1, RowG.room hk.l⟩ (Exists.intro _ (And.intro (by rw [Int.toNat_natCast]; exact hx) ?_))
        exact fin (some w.L[i]) _ (find_at hil hno (by rw [t2, t3]; rfl)).symm
      · have t3 : decide (w.L[i].kind = kd) = false := t3
        refine Exists.intro _ (And.intro hwi ?_)
        exact Exists.intro (i + 1) (Exists.intro [0, 1, 2, 3, 4, 5, 6, 7, 8] (And.intro ⟨next (by rw [t2, t3]; rfl), by omega⟩ ⟨rfl, rfl, rfl⟩))
    · have t2 : isD d w.L[i] = false := t2
      refine Exists.intro _ (And.intro hwi ?_)
      exact Exists.intro (i + 1) (Exists.intro [0, 1, 2, 3, 4, 5, 6, 7, 8] (And.intro ⟨next (by rw [t2]; rfl), by omega⟩ ⟨rfl, rfl, rfl⟩))
  · have hil : i = w.L.length := by have t1 := of_decide_eq_false t1; omega
    exact fin none _ (find_no fun k hk => hno k hk (by omega)).symm
/-! ### Outcomes -/
def wonV : Option OC → SV
  | none => .tup [.agg (dcells 0 0), .raw (.string es), iv 0, bv false]
  | some o => .tup [.agg (dcells o.br o.bn), .raw (.string o.user), iv o.amount, bv true]
theorem s_refWinner (w : RH) (q : RQ) (hk : RK w q) (d : Int × Int) :
    Ctr Tryz.prog F_rostrumref24_House_Winner [.ptr 0 0, .agg (dcells d.1 d.2)] (hoR w q) (fun r H => r = wonV (winR w d) ∧ H = hoR w q) := by
  have fin : ∀ (o : Option OC) (l : List SO), o = winR w d → VRet 7 (wonV o) (hoR w q ++ l) (fun r H => r = wonV (winR w d) ∧ H = hoR w q) := by
    rintro o l rfl
    exact VRet.mk [0, 1, 2, 3, 4, 5, 6] (wonV (winR w d)) (hoR w q) ⟨by cases winR w d <;> rfl, rfl, rfl⟩ ⟨rfl, rfl⟩
  refine i_rostrumref24_House_Winner.spec follows ?_
  refine VLoop.mk Nat (fun i => [(0, .ptr 0 0), (3, .ptr 7 0), (4, .ptr 8 0), (8, iv i)]) (fun _ => hoR w q ++ [.cells (dcells d.1 d.2) T_api_Dot, .cells (dcells 0 0) T_api_Dot]) (fun i => i ≤ w.cl.length ∧ ∀ k (hk : k < w.cl.length), k < i → (decide (w.cl[k].1.1 = d.1) && decide (w.cl[k].1.2 = d.2)) = false) (fun i => w.cl.length - i) 0 [0, 1, 2, 3, 4, 5, 6, 7, 8]
    ⟨⟨Nat.zero_le _, fun k _ hk => absurd hk (Nat.not_lt_zero k)⟩, rfl, rfl, rfl⟩ ?_
  rintro i ⟨hi, hno⟩ g
  have hul := hk.el
  refine And.intro (fun t1 => ?_) (fun t1 => ?_)
  · have t1 : (i : Int) < (w.cl.length : Nat) := of_decide_eq_true t1
    have hil : i < w.cl.length := by omega
    have hwi : IntKind.i64.wrap ((i : Int) + 1) = ((i + 1 : Nat) : Int) := wrap64 (by omega)
    have hx := hk.e.cut (fun _ => rfl) hil
    have hx0 := cut_sub hx 0 2 (by omega)
    have hx2 := cut_sub hx 2 2 (by omega)
    have h4 := hk.e.at (fun _ => rfl) hil (j := 4) (by omega)
    have h5 := hk.e.at (fun _ => rfl) hil (j := 5) (by omega)
    have hni : (0 : Int) ≤ (i : Int) ∧ (i : Int) < (w.cl.length : Nat) ∧ q.e.o + w.cl.length * 6 ≤ q.e.xs.length := ⟨Int.natCast_nonneg i, t1, RowG.room hk.e⟩
    refine And.intro hni (Exists.intro _ (And.intro (by rw [Int.toNat_natCast]; exact hx0) ?_))
    refine And.intro (fun t2 => ?_) (fun t2 => ?_)
    · have t2 : (decide (w.cl[i].1.1 = d.1) && decide (w.cl[i].1.2 = d.2)) = true := t2
      refine And.intro hni (Exists.intro _ (And.intro (by rw [Int.toNat_natCast]; exact hx2) ?_))
      refine And.intro hni (Exists.intro _ (And.intro (by rw [Int.toNat_natCast]; exact h4) ?_))
      refine And.intro hni (Exists.intro _ (And.intro (by rw [Int.toNat_natCast]; exact h5) ?_))
      have e : winR w d = some w.cl[i].2 := by unfold winR; rw [find_at hil hno t2]; rfl
      refine And.intro rfl ?_
      refine And.intro rfl ?_
      refine And.intro (And.intro hni rfl) ?_
      refine And.intro (Exists.intro _ (And.intro (by rw [Int.toNat_natCast]; exact h4) rfl)) ?_
      refine And.intro rfl ?_
      refine And.intro rfl ?_
      refine And.intro (And.intro hni rfl) ?_
      refine And.intro (Exists.intro _ (And.intro (by rw [Int.toNat_natCast]; exact h5) rfl)) ?_
      exact fin (some w.cl[i].2) _ e.symm
    · have t2 : (decide (w.cl[i].1.1 = d.1) && decide (w.cl[i].1.2 = d.2)) = false := t2
      refine Exists.intro _ (And.intro hwi ?_)
      refine Exists.intro (i + 1) (Exists.intro [0, 1, 2, 3, 4, 5, 6, 7, 8] (And.intro ⟨⟨hil, fun k hkl hk1 => ?_⟩, by omega⟩ ⟨rfl, rfl, rfl⟩))
      by_cases e : k = i
      · subst e; exact t2
      · exact hno k hkl (by omega)
  · have hil : i = w.cl.length := by have t1 := of_decide_eq_false t1; omega
    have e : winR w d = none := by unfold winR; rw [find_no fun k hk => hno k hk (by omega)]; rfl
    exact fin none _ e.symm
/-! ### What one withdrew -/
def wdS (f : ByteArray) : List ByteArray → List Int → Int
  | a :: l, n :: m => (bif decide (a = f) then n else 0) + wdS f l m
  | _, _ => 0
theorem wdS_snoc (f : ByteArray) : ∀ {l : List ByteArray} {m : List Int} {a : ByteArray} {n : Int}, l.length = m.length → wdS f (l ++ [a]) (m ++ [n]) = wdS f l m + (bif decide (a = f) then n else 0)
  | [], [], a, n, _ => by simp [wdS]
  | b :: l, p :: m, a, n, h => by
    simp only [List.cons_append, wdS]
    rw [wdS_snoc f (by simpa using h)]
    omega
theorem wdS_bound (f : ByteArray) : ∀ {l : List ByteArray} {m : List Int}, (∀ n, n ∈ m → 0 ≤ n ∧ n ≤ 1000000000) → 0 ≤ wdS f l m ∧ wdS f l m ≤ 1000000000 * m.length
  | [], m, _ => by simp [wdS]; omega
  | b :: l, [], _ => by simp [wdS]
  | b :: l, p :: m, h => by
    have h1 := h p (by simp)
    have h2 := wdS_bound f (l := l) (m := m) (fun n hn => h n (by simp [hn]))
    simp only [wdS, List.length_cons]
    cases decide (b = f) <;> simp only [cond_true, cond_false] <;> omega
theorem s_withdrawn (h : Nat → Option Obj) (hc : CaseH h) (w : RH) (q : RQ) (hk : RK w q) (hs : ∀ n, n ∈ w.su → 0 ≤ n ∧ n ≤ 1000000000) (u : ByteArray) (hu : u.size ≤ 100000000) :
    Ctr Tryz.prog F_rostrumref24_House_withdrawn [.ptr 0 0, .raw (.string u)] (hoR w q ++ [.heap h]) (fun r H => r = iv (wdS (foldB u) w.sp w.su) ∧ H = hoR w q ++ [.heap h]) := by
  refine i_rostrumref24_House_withdrawn.spec follows ?_
  refine VLoop.mk Nat (fun i => [(0, .ptr 0 0), (1, .raw (.string u)), (5, iv (wdS (foldB u) (w.sp.take i) (w.su.take i))), (6, iv i)]) (fun _ => hoR w q ++ [.heap h]) (fun i => i ≤ w.sp.length) (fun i => w.sp.length - i) 0 [0, 1, 2, 3, 4, 5, 6, 7]
    ⟨Nat.zero_le _, rfl, rfl, rfl⟩ ?_
  rintro i hi g
  have hul := hk.pl
  have hsl := hk.sl
  refine And.intro (fun t1 => ?_) (fun t1 => ?_)
  · have t1 : (i : Int) < (w.sp.length : Nat) := of_decide_eq_true t1
    have hil : i < w.sp.length := by omega
    have hil2 : i < w.su.length := by omega
    have hwi : IntKind.i64.wrap ((i : Int) + 1) = ((i + 1 : Nat) : Int) := wrap64 (by omega)
    have hx := RowG.one hk.p (fun _ => rfl) hil
    have hy := RowG.one hk.s (fun _ => rfl) hil2
    have hni : (0 : Int) ≤ (i : Int) ∧ (i : Int) < (w.sp.length : Nat) ∧ q.p.o + w.sp.length * 1 ≤ q.p.xs.length := ⟨Int.natCast_nonneg i, t1, RowG.room hk.p⟩
    have hnj : (0 : Int) ≤ (i : Int) ∧ (i : Int) < (w.su.length : Nat) ∧ q.s.o + w.su.length * 1 ≤ q.s.xs.length := ⟨Int.natCast_nonneg i, by omega, RowG.room hk.s⟩
    have hb := wdS_bound (foldB u) (l := w.sp.take i) (m := w.su.take i) (fun n hn => hs n (List.mem_of_mem_take hn))
    have hbl : (w.su.take i).length = i := by rw [List.length_take]; omega
    have hpl : (w.sp.take i).length = i := by rw [List.length_take]; omega
    have hsi := hs _ (List.getElem_mem hil2)
    have hstep : wdS (foldB u) (w.sp.take (i + 1)) (w.su.take (i + 1)) = wdS (foldB u) (w.sp.take i) (w.su.take i) + (bif decide (w.sp[i] = foldB u) then w.su[i] else 0) := by
      rw [← List.take_append_getElem hil, ← List.take_append_getElem hil2]
      exact wdS_snoc _ (by omega)
    refine And.intro hni (Exists.intro _ (And.intro (by rw [Int.toNat_natCast]; exact hx) ?_))
    refine VCall.mk [7] (s_ref_Fold h hc u hu) ⟨rfl, rfl, rfl⟩ ?_
    rintro _ _ ⟨rfl, rfl⟩
    refine And.intro rfl (And.intro rfl ?_)
    refine And.intro (And.intro hni rfl) ?_
    refine And.intro (Exists.intro _ (And.intro (by rw [Int.toNat_natCast]; exact hx) rfl)) ?_
    refine And.intro (fun t2 => ?_) (fun t2 => ?_)
    · rw [strB] at t2
      have t2 : decide (w.sp[i] = foldB u) = true := t2
      rw [t2] at hstep
      have hw : IntKind.i64.wrap (wdS (foldB u) (w.sp.take i) (w.su.take i) + w.su[i]) = wdS (foldB u) (w.sp.take i) (w.su.take i) + w.su[i] := wrap64 (by omega)
      refine And.intro hnj (Exists.intro _ (And.intro (by rw [Int.toNat_natCast]; exact hy) ?_))
      refine Exists.intro _ (And.intro hw ?_)
      refine Exists.intro _ (And.intro hwi ?_)
      exact Exists.intro (i + 1) (Exists.intro [0, 1, 2, 3, 4, 5, 6, 7] (And.intro ⟨hil, by omega⟩ ⟨by simp only [hstep]; rfl, rfl, rfl⟩))
    · rw [strB] at t2
      have t2 : decide (w.sp[i] = foldB u) = false := t2
      rw [t2] at hstep
      have hstep : wdS (foldB u) (w.sp.take (i + 1)) (w.su.take (i + 1)) = wdS (foldB u) (w.sp.take i) (w.su.take i) := by simpa using hstep
      refine Exists.intro _ (And.intro hwi ?_)
      exact Exists.intro (i + 1) (Exists.intro [0, 1, 2, 3, 4, 5, 6, 7] (And.intro ⟨hil, by omega⟩ ⟨by simp only [hstep]; rfl, rfl, rfl⟩))
  · have hil : i = w.sp.length := by have t1 := of_decide_eq_false t1; omega
    subst hil
    have e : wdS (foldB u) (w.sp.take w.sp.length) (w.su.take w.sp.length) = wdS (foldB u) w.sp w.su := by rw [List.take_length, ← hsl, List.take_length]
    exact VRet.mk [0, 1, 2, 3, 4, 5, 6, 7] (iv (wdS (foldB u) (w.sp.take w.sp.length) (w.su.take w.sp.length))) (hoR w q ++ [.heap h]) ⟨rfl, rfl, rfl⟩ ⟨by rw [e], rfl⟩
end Go.Proofs

namespace Go.Proofs
open Go Go.V Go.Lib
set_option maxRecDepth 100000
set_option linter.unusedVariables false

set_option maxHeartbeats 2000000 in
theorem s_refGood1 (h : Nat → Option Obj) (hu : Uni h) (s : ST) (h1 : s.name.size ≤ 1000) (h2 : s.user.size ≤ 1000) (hk : s.kind = 1) :
    Ctr Tryz.prog F_rostrumref24_Good [.agg (stcells s)] [.heap h] (fun x H => x = bv (goodT s) ∧ H = [.heap h]) := by
  have fin : ∀ (b : Bool) (l : List SO), b = goodT s → VRet 1 (bv b) (.heap h :: l) (fun x H => x = bv (goodT s) ∧ H = [.heap h]) := by
    rintro b l rfl
    exact VRet.mk [0] _ [.heap h] ⟨rfl, rfl, rfl⟩ ⟨rfl, rfl⟩
  refine i_rostrumref24_Good.spec follows ?_
  have bad : ∀ l : List SO, headT s = false → VRet 1 (bv false) (.heap h :: l) (fun x H => x = bv (goodT s) ∧ H = [.heap h]) := fun l hb => fin _ _ (by simp [goodT, hb])
  refine And.intro (fun k1 => ?_) (fun k1 => bad _ (by simp at k1; simp [headT]; omega))
  refine And.intro (fun k2 => ?_) (fun k2 => bad _ (by simp at k2; simp [headT]; omega))
  refine VCall.mk [] (s_ref_May s.rep s.n) ⟨rfl, rfl, rfl⟩ ?_
  rintro _ _ ⟨rfl, rfl⟩
  refine And.intro (fun k3 => ?_) (fun k3 => bad _ (by simp at k3; simp [headT, k3]))
  refine VCall.mk [] (s_ref_Vgood s.seen) ⟨rfl, rfl, rfl⟩ ?_
  rintro _ _ ⟨rfl, rfl⟩
  refine And.intro (fun k4 => ?_) (fun k4 => bad _ (by simp at k4; simp [headT, k4]))
  refine And.intro (fun k5 => ?_) (fun k5 => bad _ (by simp at k5; simp [headT]; omega))
  refine And.intro (fun k6 => bad _ (by simp at k6; simp [headT]; omega)) (fun k6 => ?_)
  have k1 : 1 ≤ s.kind := by simpa using k1
  have k2 : s.kind ≤ 7 := by simpa using k2
  have k3 : isDot s.rep s.n = true := by simpa using k3
  have k4 : vgoodB s.seen = true := by simpa using k4
  have k5 : 0 ≤ s.reds := by simpa using k5
  have k6 : s.reds ≤ 1000 := by simpa using k6
  have hh : headT s = true := by simp [headT, k1, k2, k3, k4, k5, k6]
  have hdot : (0 ≤ s.rep ∧ s.rep < 7) ∧ 1 ≤ s.n ∧ s.n ≤ 1099511627776 := by
    simp only [isDot, isRep, Bool.and_eq_true, decide_eq_true_eq] at k3; omega
  have hw : IntKind.i64.wrap (s.n - 1) = s.n - 1 := wrap64 (by omega)
  refine And.intro (fun r1 => ?_) (fun r1 => absurd (of_decide_eq_false r1) (by omega))
  refine And.intro hdot.1 (Exists.intro _ (And.intro (stcells_seen s hdot.1) ?_))
  refine Exists.intro _ (And.intro hw ?_)
  repeat' (first
    | (refine And.intro (fun r => ?_) (fun r => absurd r (by rw [hk]; decide)))
    | (refine And.intro (fun r => absurd r (by rw [hk]; decide)) (fun r => ?_))
    | (refine VCall.mk [0] (s_ref_GoodName h hu s.name (Nat.le_trans h1 (by decide))) ⟨rfl, rfl, rfl⟩ ?_; rintro _ _ ⟨rfl, rfl⟩)
    | (refine VCall.mk [0] (s_ref_GoodName h hu s.user (Nat.le_trans h2 (by decide))) ⟨rfl, rfl, rfl⟩ ?_; rintro _ _ ⟨rfl, rfl⟩)
    | (refine VCall.mk [] (s_ref_May s.ar s.an) ⟨rfl, rfl, rfl⟩ ?_; rintro _ _ ⟨rfl, rfl⟩)
    | (refine VCall.mk [] (s_ref_May s.br s.bn) ⟨rfl, rfl, rfl⟩ ?_; rintro _ _ ⟨rfl, rfl⟩)
    | (refine And.intro (fun r => fin _ _ (by (clear fin bad; simp_all [goodT, redT, partT, wordB, pointB, numB, userK, auctK, amntK] <;> (try (intros; omega))))) (fun r => ?_))
    | (refine And.intro (fun r => ?_) (fun r => fin _ _ (by (clear fin bad; simp_all [goodT, redT, partT, wordB, pointB, numB, userK, auctK, amntK] <;> (try (intros; omega))))))
    | (refine And.intro (fun r => ?_) (fun r => ?_)))
  all_goals exact fin _ _ (by (clear fin bad; simp_all [goodT, redT, partT, wordB, pointB, numB, userK, auctK, amntK] <;> (try (intros; omega))))
set_option maxHeartbeats 2000000 in
theorem s_refGood2 (h : Nat → Option Obj) (hu : Uni h) (s : ST) (h1 : s.name.size ≤ 1000) (h2 : s.user.size ≤ 1000) (hk : s.kind = 2) :
    Ctr Tryz.prog F_rostrumref24_Good [.agg (stcells s)] [.heap h] (fun x H => x = bv (goodT s) ∧ H = [.heap h]) := by
  have fin : ∀ (b : Bool) (l : List SO), b = goodT s → VRet 1 (bv b) (.heap h :: l) (fun x H => x = bv (goodT s) ∧ H = [.heap h]) := by
    rintro b l rfl
    exact VRet.mk [0] _ [.heap h] ⟨rfl, rfl, rfl⟩ ⟨rfl, rfl⟩
  refine i_rostrumref24_Good.spec follows ?_
  have bad : ∀ l : List SO, headT s = false → VRet 1 (bv false) (.heap h :: l) (fun x H => x = bv (goodT s) ∧ H = [.heap h]) := fun l hb => fin _ _ (by simp [goodT, hb])
  refine And.intro (fun k1 => ?_) (fun k1 => bad _ (by simp at k1; simp [headT]; omega))
  refine And.intro (fun k2 => ?_) (fun k2 => bad _ (by simp at k2; simp [headT]; omega))
  refine VCall.mk [] (s_ref_May s.rep s.n) ⟨rfl, rfl, rfl⟩ ?_
  rintro _ _ ⟨rfl, rfl⟩
  refine And.intro (fun k3 => ?_) (fun k3 => bad _ (by simp at k3; simp [headT, k3]))
  refine VCall.mk [] (s_ref_Vgood s.seen) ⟨rfl, rfl, rfl⟩ ?_
  rintro _ _ ⟨rfl, rfl⟩
  refine And.intro (fun k4 => ?_) (fun k4 => bad _ (by simp at k4; simp [headT, k4]))
  refine And.intro (fun k5 => ?_) (fun k5 => bad _ (by simp at k5; simp [headT]; omega))
  refine And.intro (fun k6 => bad _ (by simp at k6; simp [headT]; omega)) (fun k6 => ?_)
  have k1 : 1 ≤ s.kind := by simpa using k1
  have k2 : s.kind ≤ 7 := by simpa using k2
  have k3 : isDot s.rep s.n = true := by simpa using k3
  have k4 : vgoodB s.seen = true := by simpa using k4
  have k5 : 0 ≤ s.reds := by simpa using k5
  have k6 : s.reds ≤ 1000 := by simpa using k6
  have hh : headT s = true := by simp [headT, k1, k2, k3, k4, k5, k6]
  have hdot : (0 ≤ s.rep ∧ s.rep < 7) ∧ 1 ≤ s.n ∧ s.n ≤ 1099511627776 := by
    simp only [isDot, isRep, Bool.and_eq_true, decide_eq_true_eq] at k3; omega
  have hw : IntKind.i64.wrap (s.n - 1) = s.n - 1 := wrap64 (by omega)
  refine And.intro (fun r1 => ?_) (fun r1 => absurd (of_decide_eq_false r1) (by omega))
  refine And.intro hdot.1 (Exists.intro _ (And.intro (stcells_seen s hdot.1) ?_))
  refine Exists.intro _ (And.intro hw ?_)
  repeat' (first
    | (refine And.intro (fun r => ?_) (fun r => absurd r (by rw [hk]; decide)))
    | (refine And.intro (fun r => absurd r (by rw [hk]; decide)) (fun r => ?_))
    | (refine VCall.mk [0] (s_ref_GoodName h hu s.name (Nat.le_trans h1 (by decide))) ⟨rfl, rfl, rfl⟩ ?_; rintro _ _ ⟨rfl, rfl⟩)
    | (refine VCall.mk [0] (s_ref_GoodName h hu s.user (Nat.le_trans h2 (by decide))) ⟨rfl, rfl, rfl⟩ ?_; rintro _ _ ⟨rfl, rfl⟩)
    | (refine VCall.mk [] (s_ref_May s.ar s.an) ⟨rfl, rfl, rfl⟩ ?_; rintro _ _ ⟨rfl, rfl⟩)
    | (refine VCall.mk [] (s_ref_May s.br s.bn) ⟨rfl, rfl, rfl⟩ ?_; rintro _ _ ⟨rfl, rfl⟩)
    | (refine And.intro (fun r => fin _ _ (by (clear fin bad; simp_all [goodT, redT, partT, wordB, pointB, numB, userK, auctK, amntK] <;> (try (intros; omega))))) (fun r => ?_))
    | (refine And.intro (fun r => ?_) (fun r => fin _ _ (by (clear fin bad; simp_all [goodT, redT, partT, wordB, pointB, numB, userK, auctK, amntK] <;> (try (intros; omega))))))
    | (refine And.intro (fun r => ?_) (fun r => ?_)))
  all_goals exact fin _ _ (by (clear fin bad; simp_all [goodT, redT, partT, wordB, pointB, numB, userK, auctK, amntK] <;> (try (intros; omega))))
set_option maxHeartbeats 2000000 in
theorem s_refGood3 (h : Nat → Option Obj) (hu : Uni h) (s : ST) (h1 : s.name.size ≤ 1000) (h2 : s.user.size ≤ 1000) (hk : s.kind = 3) :
    Ctr Tryz.prog F_rostrumref24_Good [.agg (stcells s)] [.heap h] (fun x H => x = bv (goodT s) ∧ H = [.heap h]) := by
  have fin : ∀ (b : Bool) (l : List SO), b = goodT s → VRet 1 (bv b) (.heap h :: l) (fun x H => x = bv (goodT s) ∧ H = [.heap h]) := by
    rintro b l rfl
    exact VRet.mk [0] _ [.heap h] ⟨rfl, rfl, rfl⟩ ⟨rfl, rfl⟩
  refine i_rostrumref24_Good.spec follows ?_
  have bad : ∀ l : List SO, headT s = false → VRet 1 (bv false) (.heap h :: l) (fun x H => x = bv (goodT s) ∧ H = [.heap h]) := fun l hb => fin _ _ (by simp [goodT, hb])
  refine And.intro (fun k1 => ?_) (fun k1 => bad _ (by simp at k1; simp [headT]; omega))
  refine And.intro (fun k2 => ?_) (fun k2 => bad _ (by simp at k2; simp [headT]; omega))
  refine VCall.mk [] (s_ref_May s.rep s.n) ⟨rfl, rfl, rfl⟩ ?_
  rintro _ _ ⟨rfl, rfl⟩
  refine And.intro (fun k3 => ?_) (fun k3 => bad _ (by simp at k3; simp [headT, k3]))
  refine VCall.mk [] (s_ref_Vgood s.seen) ⟨rfl, rfl, rfl⟩ ?_
  rintro _ _ ⟨rfl, rfl⟩
  refine And.intro (fun k4 => ?_) (fun k4 => bad _ (by simp at k4; simp [headT, k4]))
  refine And.intro (fun k5 => ?_) (fun k5 => bad _ (by simp at k5; simp [headT]; omega))
  refine And.intro (fun k6 => bad _ (by simp at k6; simp [headT]; omega)) (fun k6 => ?_)
  have k1 : 1 ≤ s.kind := by simpa using k1
  have k2 : s.kind ≤ 7 := by simpa using k2
  have k3 : isDot s.rep s.n = true := by simpa using k3
  have k4 : vgoodB s.seen = true := by simpa using k4
  have k5 : 0 ≤ s.reds := by simpa using k5
  have k6 : s.reds ≤ 1000 := by simpa using k6
  have hh : headT s = true := by simp [headT, k1, k2, k3, k4, k5, k6]
  have hdot : (0 ≤ s.rep ∧ s.rep < 7) ∧ 1 ≤ s.n ∧ s.n ≤ 1099511627776 := by
    simp only [isDot, isRep, Bool.and_eq_true, decide_eq_true_eq] at k3; omega
  have hw : IntKind.i64.wrap (s.n - 1) = s.n - 1 := wrap64 (by omega)
  refine And.intro (fun r1 => ?_) (fun r1 => absurd (of_decide_eq_false r1) (by omega))
  refine And.intro hdot.1 (Exists.intro _ (And.intro (stcells_seen s hdot.1) ?_))
  refine Exists.intro _ (And.intro hw ?_)
  repeat' (first
    | (refine And.intro (fun r => ?_) (fun r => absurd r (by rw [hk]; decide)))
    | (refine And.intro (fun r => absurd r (by rw [hk]; decide)) (fun r => ?_))
    | (refine VCall.mk [0] (s_ref_GoodName h hu s.name (Nat.le_trans h1 (by decide))) ⟨rfl, rfl, rfl⟩ ?_; rintro _ _ ⟨rfl, rfl⟩)
    | (refine VCall.mk [0] (s_ref_GoodName h hu s.user (Nat.le_trans h2 (by decide))) ⟨rfl, rfl, rfl⟩ ?_; rintro _ _ ⟨rfl, rfl⟩)
    | (refine VCall.mk [] (s_ref_May s.ar s.an) ⟨rfl, rfl, rfl⟩ ?_; rintro _ _ ⟨rfl, rfl⟩)
    | (refine VCall.mk [] (s_ref_May s.br s.bn) ⟨rfl, rfl, rfl⟩ ?_; rintro _ _ ⟨rfl, rfl⟩)
    | (refine And.intro (fun r => fin _ _ (by (clear fin bad; simp_all [goodT, redT, partT, wordB, pointB, numB, userK, auctK, amntK] <;> (try (intros; omega))))) (fun r => ?_))
    | (refine And.intro (fun r => ?_) (fun r => fin _ _ (by (clear fin bad; simp_all [goodT, redT, partT, wordB, pointB, numB, userK, auctK, amntK] <;> (try (intros; omega))))))
    | (refine And.intro (fun r => ?_) (fun r => ?_)))
  all_goals exact fin _ _ (by (clear fin bad; simp_all [goodT, redT, partT, wordB, pointB, numB, userK, auctK, amntK] <;> (try (intros; omega))))
set_option maxHeartbeats 2000000 in
theorem s_refGood4 (h : Nat → Option Obj) (hu : Uni h) (s : ST) (h1 : s.name.size ≤ 1000) (h2 : s.user.size ≤ 1000) (hk : s.kind = 4) :
    Ctr Tryz.prog F_rostrumref24_Good [.agg (stcells s)] [.heap h] (fun x H => x = bv (goodT s) ∧ H = [.heap h]) := by
  have fin : ∀ (b : Bool) (l : List SO), b = goodT s → VRet 1 (bv b) (.heap h :: l) (fun x H => x = bv (goodT s) ∧ H = [.heap h]) := by
    rintro b l rfl
    exact VRet.mk [0] _ [.heap h] ⟨rfl, rfl, rfl⟩ ⟨rfl, rfl⟩
  refine i_rostrumref24_Good.spec follows ?_
  have bad : ∀ l : List SO, headT s = false → VRet 1 (bv false) (.heap h :: l) (fun x H => x = bv (goodT s) ∧ H = [.heap h]) := fun l hb => fin _ _ (by simp [goodT, hb])
  refine And.intro (fun k1 => ?_) (fun k1 => bad _ (by simp at k1; simp [headT]; omega))
  refine And.intro (fun k2 => ?_) (fun k2 => bad _ (by simp at k2; simp [headT]; omega))
  refine VCall.mk [] (s_ref_May s.rep s.n) ⟨rfl, rfl, rfl⟩ ?_
  rintro _ _ ⟨rfl, rfl⟩
  refine And.intro (fun k3 => ?_) (fun k3 => bad _ (by simp at k3; simp [headT, k3]))
  refine VCall.mk [] (s_ref_Vgood s.seen) ⟨rfl, rfl, rfl⟩ ?_
  rintro _ _ ⟨rfl, rfl⟩
  refine And.intro (fun k4 => ?_) (fun k4 => bad _ (by simp at k4; simp [headT, k4]))
  refine And.intro (fun k5 => ?_) (fun k5 => bad _ (by simp at k5; simp [headT]; omega))
  refine And.intro (fun k6 => bad _ (by simp at k6; simp [headT]; omega)) (fun k6 => ?_)
  have k1 : 1 ≤ s.kind := by simpa using k1
  have k2 : s.kind ≤ 7 := by simpa using k2
  have k3 : isDot s.rep s.n = true := by simpa using k3
  have k4 : vgoodB s.seen = true := by simpa using k4
  have k5 : 0 ≤ s.reds := by simpa using k5
  have k6 : s.reds ≤ 1000 := by simpa using k6
  have hh : headT s = true := by simp [headT, k1, k2, k3, k4, k5, k6]
  have hdot : (0 ≤ s.rep ∧ s.rep < 7) ∧ 1 ≤ s.n ∧ s.n ≤ 1099511627776 := by
    simp only [isDot, isRep, Bool.and_eq_true, decide_eq_true_eq] at k3; omega
  have hw : IntKind.i64.wrap (s.n - 1) = s.n - 1 := wrap64 (by omega)
  refine And.intro (fun r1 => ?_) (fun r1 => absurd (of_decide_eq_false r1) (by omega))
  refine And.intro hdot.1 (Exists.intro _ (And.intro (stcells_seen s hdot.1) ?_))
  refine Exists.intro _ (And.intro hw ?_)
  repeat' (first
    | (refine And.intro (fun r => ?_) (fun r => absurd r (by rw [hk]; decide)))
    | (refine And.intro (fun r => absurd r (by rw [hk]; decide)) (fun r => ?_))
    | (refine VCall.mk [0] (s_ref_GoodName h hu s.name (Nat.le_trans h1 (by decide))) ⟨rfl, rfl, rfl⟩ ?_; rintro _ _ ⟨rfl, rfl⟩)
    | (refine VCall.mk [0] (s_ref_GoodName h hu s.user (Nat.le_trans h2 (by decide))) ⟨rfl, rfl, rfl⟩ ?_; rintro _ _ ⟨rfl, rfl⟩)
    | (refine VCall.mk [] (s_ref_May s.ar s.an) ⟨rfl, rfl, rfl⟩ ?_; rintro _ _ ⟨rfl, rfl⟩)
    | (refine VCall.mk [] (s_ref_May s.br s.bn) ⟨rfl, rfl, rfl⟩ ?_; rintro _ _ ⟨rfl, rfl⟩)
    | (refine And.intro (fun r => fin _ _ (by (clear fin bad; simp_all [goodT, redT, partT, wordB, pointB, numB, userK, auctK, amntK] <;> (try (intros; omega))))) (fun r => ?_))
    | (refine And.intro (fun r => ?_) (fun r => fin _ _ (by (clear fin bad; simp_all [goodT, redT, partT, wordB, pointB, numB, userK, auctK, amntK] <;> (try (intros; omega))))))
    | (refine And.intro (fun r => ?_) (fun r => ?_)))
  all_goals exact fin _ _ (by (clear fin bad; simp_all [goodT, redT, partT, wordB, pointB, numB, userK, auctK, amntK] <;> (try (intros; omega))))
set_option maxHeartbeats 2000000 in
theorem s_refGood5 (h : Nat → Option Obj) (hu : Uni h) (s : ST) (h1 : s.name.size ≤ 1000) (h2 : s.user.size ≤ 1000) (hk : s.kind = 5) :
    Ctr Tryz.prog F_rostrumref24_Good [.agg (stcells s)] [.heap h] (fun x H => x = bv (goodT s) ∧ H = [.heap h]) := by
  have fin : ∀ (b : Bool) (l : List SO), b = goodT s → VRet 1 (bv b) (.heap h :: l) (fun x H => x = bv (goodT s) ∧ H = [.heap h]) := by
    rintro b l rfl
    exact VRet.mk [0] _ [.heap h] ⟨rfl, rfl, rfl⟩ ⟨rfl, rfl⟩
  refine i_rostrumref24_Good.spec follows ?_
  have bad : ∀ l : List SO, headT s = false → VRet 1 (bv false) (.heap h :: l) (fun x H => x = bv (goodT s) ∧ H = [.heap h]) := fun l hb => fin _ _ (by simp [goodT, hb])
  refine And.intro (fun k1 => ?_) (fun k1 => bad _ (by simp at k1; simp [headT]; omega))
  refine And.intro (fun k2 => ?_) (fun k2 => bad _ (by simp at k2; simp [headT]; omega))
  refine VCall.mk [] (s_ref_May s.rep s.n) ⟨rfl, rfl, rfl⟩ ?_
  rintro _ _ ⟨rfl, rfl⟩
  refine And.intro (fun k3 => ?_) (fun k3 => bad _ (by simp at k3; simp [headT, k3]))
  refine VCall.mk [] (s_ref_Vgood s.seen) ⟨rfl, rfl, rfl⟩ ?_
  rintro _ _ ⟨rfl, rfl⟩
  refine And.intro (fun k4 => ?_) (fun k4 => bad _ (by simp at k4; simp [headT, k4]))
  refine And.intro (fun k5 => ?_) (fun k5 => bad _ (by simp at k5; simp [headT]; omega))
  refine And.intro (fun k6 => bad _ (by simp at k6; simp [headT]; omega)) (fun k6 => ?_)
  have k1 : 1 ≤ s.kind := by simpa using k1
  have k2 : s.kind ≤ 7 := by simpa using k2
  have k3 : isDot s.rep s.n = true := by simpa using k3
  have k4 : vgoodB s.seen = true := by simpa using k4
  have k5 : 0 ≤ s.reds := by simpa using k5
  have k6 : s.reds ≤ 1000 := by simpa using k6
  have hh : headT s = true := by simp [headT, k1, k2, k3, k4, k5, k6]
  have hdot : (0 ≤ s.rep ∧ s.rep < 7) ∧ 1 ≤ s.n ∧ s.n ≤ 1099511627776 := by
    simp only [isDot, isRep, Bool.and_eq_true, decide_eq_true_eq] at k3; omega
  repeat' (first
    | (refine And.intro (fun r => ?_) (fun r => absurd r (by rw [hk]; decide)))
    | (refine And.intro (fun r => absurd r (by rw [hk]; decide)) (fun r => ?_))
    | (refine VCall.mk [0] (s_ref_GoodName h hu s.name (Nat.le_trans h1 (by decide))) ⟨rfl, rfl, rfl⟩ ?_; rintro _ _ ⟨rfl, rfl⟩)
    | (refine VCall.mk [0] (s_ref_GoodName h hu s.user (Nat.le_trans h2 (by decide))) ⟨rfl, rfl, rfl⟩ ?_; rintro _ _ ⟨rfl, rfl⟩)
    | (refine VCall.mk [] (s_ref_May s.ar s.an) ⟨rfl, rfl, rfl⟩ ?_; rintro _ _ ⟨rfl, rfl⟩)
    | (refine VCall.mk [] (s_ref_May s.br s.bn) ⟨rfl, rfl, rfl⟩ ?_; rintro _ _ ⟨rfl, rfl⟩)
    | (refine And.intro (fun r => fin _ _ (by (clear fin bad; simp_all [goodT, redT, partT, wordB, pointB, numB, userK, auctK, amntK] <;> (try (intros; omega))))) (fun r => ?_))
    | (refine And.intro (fun r => ?_) (fun r => fin _ _ (by (clear fin bad; simp_all [goodT, redT, partT, wordB, pointB, numB, userK, auctK, amntK] <;> (try (intros; omega))))))
    | (refine And.intro (fun r => ?_) (fun r => ?_)))
  all_goals exact fin _ _ (by (clear fin bad; simp_all [goodT, redT, partT, wordB, pointB, numB, userK, auctK, amntK] <;> (try (intros; omega))))
set_option maxHeartbeats 2000000 in
theorem s_refGood6 (h : Nat → Option Obj) (hu : Uni h) (s : ST) (h1 : s.name.size ≤ 1000) (h2 : s.user.size ≤ 1000) (hk : s.kind = 6) :
    Ctr Tryz.prog F_rostrumref24_Good [.agg (stcells s)] [.heap h] (fun x H => x = bv (goodT s) ∧ H = [.heap h]) := by
  have fin : ∀ (b : Bool) (l : List SO), b = goodT s → VRet 1 (bv b) (.heap h :: l) (fun x H => x = bv (goodT s) ∧ H = [.heap h]) := by
    rintro b l rfl
    exact VRet.mk [0] _ [.heap h] ⟨rfl, rfl, rfl⟩ ⟨rfl, rfl⟩
  refine i_rostrumref24_Good.spec follows ?_
  have bad : ∀ l : List SO, headT s = false → VRet 1 (bv false) (.heap h :: l) (fun x H => x = bv (goodT s) ∧ H = [.heap h]) := fun l hb => fin _ _ (by simp [goodT, hb])
  refine And.intro (fun k1 => ?_) (fun k1 => bad _ (by simp at k1; simp [headT]; omega))
  refine And.intro (fun k2 => ?_) (fun k2 => bad _ (by simp at k2; simp [headT]; omega))
  refine VCall.mk [] (s_ref_May s.rep s.n) ⟨rfl, rfl, rfl⟩ ?_
  rintro _ _ ⟨rfl, rfl⟩
  refine And.intro (fun k3 => ?_) (fun k3 => bad _ (by simp at k3; simp [headT, k3]))
  refine VCall.mk [] (s_ref_Vgood s.seen) ⟨rfl, rfl, rfl⟩ ?_
  rintro _ _ ⟨rfl, rfl⟩
  refine And.intro (fun k4 => ?_) (fun k4 => bad _ (by simp at k4; simp [headT, k4]))
  refine And.intro (fun k5 => ?_) (fun k5 => bad _ (by simp at k5; simp [headT]; omega))
  refine And.intro (fun k6 => bad _ (by simp at k6; simp [headT]; omega)) (fun k6 => ?_)
  have k1 : 1 ≤ s.kind := by simpa using k1
  have k2 : s.kind ≤ 7 := by simpa using k2
  have k3 : isDot s.rep s.n = true := by simpa using k3
  have k4 : vgoodB s.seen = true := by simpa using k4
  have k5 : 0 ≤ s.reds := by simpa using k5
  have k6 : s.reds ≤ 1000 := by simpa using k6
  have hh : headT s = true := by simp [headT, k1, k2, k3, k4, k5, k6]
  have hdot : (0 ≤ s.rep ∧ s.rep < 7) ∧ 1 ≤ s.n ∧ s.n ≤ 1099511627776 := by
    simp only [isDot, isRep, Bool.and_eq_true, decide_eq_true_eq] at k3; omega
  repeat' (first
    | (refine And.intro (fun r => ?_) (fun r => absurd r (by rw [hk]; decide)))
    | (refine And.intro (fun r => absurd r (by rw [hk]; decide)) (fun r => ?_))
    | (refine VCall.mk [0] (s_ref_GoodName h hu s.name (Nat.le_trans h1 (by decide))) ⟨rfl, rfl, rfl⟩ ?_; rintro _ _ ⟨rfl, rfl⟩)
    | (refine VCall.mk [0] (s_ref_GoodName h hu s.user (Nat.le_trans h2 (by decide))) ⟨rfl, rfl, rfl⟩ ?_; rintro _ _ ⟨rfl, rfl⟩)
    | (refine VCall.mk [] (s_ref_May s.ar s.an) ⟨rfl, rfl, rfl⟩ ?_; rintro _ _ ⟨rfl, rfl⟩)
    | (refine VCall.mk [] (s_ref_May s.br s.bn) ⟨rfl, rfl, rfl⟩ ?_; rintro _ _ ⟨rfl, rfl⟩)
    | (refine And.intro (fun r => fin _ _ (by (clear fin bad; simp_all [goodT, redT, partT, wordB, pointB, numB, userK, auctK, amntK] <;> (try (intros; omega))))) (fun r => ?_))
    | (refine And.intro (fun r => ?_) (fun r => fin _ _ (by (clear fin bad; simp_all [goodT, redT, partT, wordB, pointB, numB, userK, auctK, amntK] <;> (try (intros; omega))))))
    | (refine And.intro (fun r => ?_) (fun r => ?_)))
  all_goals exact fin _ _ (by (clear fin bad; simp_all [goodT, redT, partT, wordB, pointB, numB, userK, auctK, amntK] <;> (try (intros; omega))))
set_option maxHeartbeats 2000000 in
theorem s_refGood7 (h : Nat → Option Obj) (hu : Uni h) (s : ST) (h1 : s.name.size ≤ 1000) (h2 : s.user.size ≤ 1000) (hk : s.kind = 7) :
    Ctr Tryz.prog F_rostrumref24_Good [.agg (stcells s)] [.heap h] (fun x H => x = bv (goodT s) ∧ H = [.heap h]) := by
  have fin : ∀ (b : Bool) (l : List SO), b = goodT s → VRet 1 (bv b) (.heap h :: l) (fun x H => x = bv (goodT s) ∧ H = [.heap h]) := by
    rintro b l rfl
    exact VRet.mk [0] _ [.heap h] ⟨rfl, rfl, rfl⟩ ⟨rfl, rfl⟩
  refine i_rostrumref24_Good.spec follows ?_
  have bad : ∀ l : List SO, headT s = false → VRet 1 (bv false) (.heap h :: l) (fun x H => x = bv (goodT s) ∧ H = [.heap h]) := fun l hb => fin _ _ (by simp [goodT, hb])
  refine And.intro (fun k1 => ?_) (fun k1 => bad _ (by simp at k1; simp [headT]; omega))
  refine And.intro (fun k2 => ?_) (fun k2 => bad _ (by simp at k2; simp [headT]; omega))
  refine VCall.mk [] (s_ref_May s.rep s.n) ⟨rfl, rfl, rfl⟩ ?_
  rintro _ _ ⟨rfl, rfl⟩
  refine And.intro (fun k3 => ?_) (fun k3 => bad _ (by simp at k3; simp [headT, k3]))
  refine VCall.mk [] (s_ref_Vgood s.seen) ⟨rfl, rfl, rfl⟩ ?_
  rintro _ _ ⟨rfl, rfl⟩
  refine And.intro (fun k4 => ?_) (fun k4 => bad _ (by simp at k4; simp [headT, k4]))
  refine And.intro (fun k5 => ?_) (fun k5 => bad _ (by simp at k5; simp [headT]; omega))
  refine And.intro (fun k6 => bad _ (by simp at k6; simp [headT]; omega)) (fun k6 => ?_)
  have k1 : 1 ≤ s.kind := by simpa using k1
  have k2 : s.kind ≤ 7 := by simpa using k2
  have k3 : isDot s.rep s.n = true := by simpa using k3
  have k4 : vgoodB s.seen = true := by simpa using k4
  have k5 : 0 ≤ s.reds := by simpa using k5
  have k6 : s.reds ≤ 1000 := by simpa using k6
  have hh : headT s = true := by simp [headT, k1, k2, k3, k4, k5, k6]
  have hdot : (0 ≤ s.rep ∧ s.rep < 7) ∧ 1 ≤ s.n ∧ s.n ≤ 1099511627776 := by
    simp only [isDot, isRep, Bool.and_eq_true, decide_eq_true_eq] at k3; omega
  repeat' (first
    | (refine And.intro (fun r => ?_) (fun r => absurd r (by rw [hk]; decide)))
    | (refine And.intro (fun r => absurd r (by rw [hk]; decide)) (fun r => ?_))
    | (refine VCall.mk [0] (s_ref_GoodName h hu s.name (Nat.le_trans h1 (by decide))) ⟨rfl, rfl, rfl⟩ ?_; rintro _ _ ⟨rfl, rfl⟩)
    | (refine VCall.mk [0] (s_ref_GoodName h hu s.user (Nat.le_trans h2 (by decide))) ⟨rfl, rfl, rfl⟩ ?_; rintro _ _ ⟨rfl, rfl⟩)
    | (refine VCall.mk [] (s_ref_May s.ar s.an) ⟨rfl, rfl, rfl⟩ ?_; rintro _ _ ⟨rfl, rfl⟩)
    | (refine VCall.mk [] (s_ref_May s.br s.bn) ⟨rfl, rfl, rfl⟩ ?_; rintro _ _ ⟨rfl, rfl⟩)
    | (refine And.intro (fun r => fin _ _ (by (clear fin bad; simp_all [goodT, redT, partT, wordB, pointB, numB, userK, auctK, amntK] <;> (try (intros; omega))))) (fun r => ?_))
    | (refine And.intro (fun r => ?_) (fun r => fin _ _ (by (clear fin bad; simp_all [goodT, redT, partT, wordB, pointB, numB, userK, auctK, amntK] <;> (try (intros; omega))))))
    | (refine And.intro (fun r => ?_) (fun r => ?_)))
  all_goals exact fin _ _ (by (clear fin bad; simp_all [goodT, redT, partT, wordB, pointB, numB, userK, auctK, amntK] <;> (try (intros; omega))))
theorem s_refGood (h : Nat → Option Obj) (hu : Uni h) (s : ST) (h1 : s.name.size ≤ 1000) (h2 : s.user.size ≤ 1000) :
    Ctr Tryz.prog F_rostrumref24_Good [.agg (stcells s)] [.heap h] (fun x H => x = bv (goodT s) ∧ H = [.heap h]) := by
  by_cases hk : 1 ≤ s.kind ∧ s.kind ≤ 7
  · obtain ⟨ha, hb⟩ := hk
    have : s.kind = 1 ∨ s.kind = 2 ∨ s.kind = 3 ∨ s.kind = 4 ∨ s.kind = 5 ∨ s.kind = 6 ∨ s.kind = 7 := by omega
    rcases this with k | k | k | k | k | k | k
    · exact s_refGood1 h hu s h1 h2 k
    · exact s_refGood2 h hu s h1 h2 k
    · exact s_refGood3 h hu s h1 h2 k
    · exact s_refGood4 h hu s h1 h2 k
    · exact s_refGood5 h hu s h1 h2 k
    · exact s_refGood6 h hu s h1 h2 k
    · exact s_refGood7 h hu s h1 h2 k
  · have hg : goodT s = false := by
      have : headT s = false := by
        simp only [headT]
        by_cases h1 : 1 ≤ s.kind
        · have : ¬ s.kind ≤ 7 := fun h => hk ⟨h1, h⟩
          rw [decide_eq_false this]; simp
        · rw [decide_eq_false h1]; rfl
      rw [goodT, this]; rfl
    have fin : ∀ (l : List SO), VRet 1 (bv false) (.heap h :: l) (fun x H => x = bv (goodT s) ∧ H = [.heap h]) := by
      intro l
      exact VRet.mk [0] _ [.heap h] ⟨rfl, rfl, rfl⟩ ⟨by rw [hg], rfl⟩
    refine i_rostrumref24_Good.spec follows ?_
    refine And.intro (fun k1 => ?_) (fun k1 => fin _)
    refine And.intro (fun k2 => ?_) (fun k2 => fin _)
    exact absurd (And.intro (by have := of_decide_eq_false k1; omega) (by have := of_decide_eq_false k2; omega)) hk
end Go.Proofs

