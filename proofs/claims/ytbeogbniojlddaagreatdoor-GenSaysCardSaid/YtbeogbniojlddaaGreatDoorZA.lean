/- Part of the proof that the statement named in the last file holds: lemmas of the prover's own. No conditions. -/
import Derived.Test.YtbeogbniojlddaaGreatDoorDC
namespace Go.Proofs
open Go Go.V Go.Lib
set_option maxRecDepth 100000
set_option linter.unusedVariables false

/-! ### The document's own clocks and dots -/
theorem s_ref_May (r n : Int) : Ctr Tryz.prog F_rostrumref7_May [.agg (dcells r n)] [] (fun v H => v = bv (isDot r n) ∧ H = []) := by
  refine i_rostrumref7_May.spec follows ?_
  refine And.intro (fun h1 => ?_) (fun h1 => ?_)
  · refine And.intro (fun h2 => ?_) (fun h2 => ?_)
    · refine And.intro (fun h3 => ?_) (fun h3 => ?_)
      · refine VRet.mk [] (bv _) [] ⟨rfl, rfl, rfl⟩ ⟨?_, rfl⟩
        show bv _ = bv _
        have h1 := of_decide_eq_true h1; have h2 := of_decide_eq_true h2; have h3 := of_decide_eq_true h3
        simp [isDot, isRep, h1, h2, h3]
      · refine VRet.mk [] (bv _) [] ⟨rfl, rfl, rfl⟩ ⟨?_, rfl⟩
        show bv _ = bv _
        have h3 := of_decide_eq_false h3
        simp [isDot, isRep, h3]
    · refine VRet.mk [] (bv _) [] ⟨rfl, rfl, rfl⟩ ⟨?_, rfl⟩
      show bv _ = bv _
      have h2 := of_decide_eq_false h2
      simp [isDot, isRep, h2]
  · refine VRet.mk [] (bv _) [] ⟨rfl, rfl, rfl⟩ ⟨?_, rfl⟩
    show bv _ = bv _
    have h1 := of_decide_eq_false h1
    simp [isDot, isRep, h1]
theorem s_ref_Has (v : Nat → Int) (r n : Int) : Ctr Tryz.prog F_rostrumref7_Has [.agg (vcells v), .agg (dcells r n)] [] (fun x H => x = bv (has v r n) ∧ H = []) := by
  refine i_rostrumref7_Has.spec follows ?_
  refine And.intro (fun h1 => ?_) (fun h1 => ?_)
  · refine And.intro (fun h2 => ?_) (fun h2 => ?_)
    · have hr : 0 ≤ r ∧ r < 7 := ⟨of_decide_eq_true h1, of_decide_eq_true h2⟩
      refine And.intro (fun h3 => ?_) (fun h3 => ?_)
      · refine And.intro hr (Exists.intro _ (And.intro (vcells_get' v hr []) ?_))
        refine VRet.mk [] (bv _) [] ⟨rfl, rfl, rfl⟩ ⟨?_, rfl⟩
        show bv _ = bv _
        have h3 := of_decide_eq_true h3
        simp [has, isRep, hr, h3]
      · refine VRet.mk [] (bv _) [] ⟨rfl, rfl, rfl⟩ ⟨?_, rfl⟩
        show bv _ = bv _
        have h3 := of_decide_eq_false h3
        simp [has, isRep, h3]
    · refine VRet.mk [] (bv _) [] ⟨rfl, rfl, rfl⟩ ⟨?_, rfl⟩
      show bv _ = bv _
      have h2 := of_decide_eq_false h2
      simp [has, isRep, h2]
  · refine VRet.mk [] (bv _) [] ⟨rfl, rfl, rfl⟩ ⟨?_, rfl⟩
    show bv _ = bv _
    have h1 := of_decide_eq_false h1
    simp [has, isRep, h1]
theorem s_ref_Le (v w : Nat → Int) : Ctr Tryz.prog F_rostrumref7_Le [.agg (vcells v), .agg (vcells w)] [] (fun x H => x = bv (leB v w) ∧ H = []) := by
  refine i_rostrumref7_Le.spec follows ?_
  refine VLoop.mk Nat (fun i => [(2, .ptr 0 0), (3, .ptr 1 0), (5, iv i)]) (fun i => [.cells (vcells v) T_rostrumref7_Vec, .cells (vcells w) T_rostrumref7_Vec]) (fun i => i ≤ 7 ∧ ∀ j, j < i → v j ≤ w j) (fun i => 7 - i) 0 [0, 1]
    ⟨⟨by omega, fun j hj => by omega⟩, rfl, rfl, rfl⟩ ?_
  rintro i ⟨hi, hd⟩ g
  refine And.intro (fun h => ?_) (fun h => ?_)
  · have h := of_decide_eq_true h
    have hi7 : 0 ≤ (i : Int) ∧ (i : Int) < 7 := ⟨by omega, h⟩
    have hw : IntKind.i64.wrap ((i : Int) + 1) = ((i + 1 : Nat) : Int) := wrap64 (by omega)
    refine And.intro hi7 (Exists.intro _ (And.intro (vcells_get' v hi7 []) ?_))
    refine And.intro hi7 (Exists.intro _ (And.intro (vcells_get' w hi7 []) ?_))
    refine And.intro (fun h2 => ?_) (fun h2 => ?_)
    · have h2 := of_decide_eq_true h2
      refine VRet.mk [] (bv false) [] ⟨rfl, rfl, rfl⟩ ⟨?_, rfl⟩
      have : leB v w = false := by
        rw [Bool.eq_false_iff, Ne, leB_iff]
        intro hh
        have := hh i (by omega)
        rw [Int.toNat_natCast] at h2
        omega
      rw [this]
    · have h2 := of_decide_eq_false h2
      refine Exists.intro _ (And.intro hw ?_)
      refine Exists.intro (i + 1) (Exists.intro [0, 1] (And.intro ⟨⟨by omega, fun j hj => ?_⟩, by omega⟩ ⟨rfl, rfl, rfl⟩))
      rw [Int.toNat_natCast] at h2
      by_cases e : j = i
      · subst e; omega
      · exact hd j (by omega)
  · have h := of_decide_eq_false h
    have h7 : i = 7 := by omega
    subst h7
    refine VRet.mk [] (bv true) [] ⟨rfl, rfl, rfl⟩ ⟨?_, rfl⟩
    rw [leB_iff.2 hd]
theorem s_ref_Vgood (v : Nat → Int) : Ctr Tryz.prog F_rostrumref7_Good [.agg (vcells v)] [] (fun x H => x = bv (vgoodB v) ∧ H = []) := by
  refine i_rostrumref7_Good.spec follows ?_
  refine VLoop.mk Nat (fun i => [(1, .ptr 0 0), (3, iv i)]) (fun i => [.cells (vcells v) T_rostrumref7_Vec]) (fun i => i ≤ 7 ∧ ∀ j, j < i → 0 ≤ v j ∧ v j ≤ 1099511627776) (fun i => 7 - i) 0 [0]
    ⟨⟨by omega, fun j hj => by omega⟩, rfl, rfl, rfl⟩ ?_
  rintro i ⟨hi, hd⟩ g
  have bad : ∀ k, k < 7 → ¬ (0 ≤ v k ∧ v k ≤ 1099511627776) → vgoodB v = false := by
    intro k hk hn
    rw [Bool.eq_false_iff, Ne, vgoodB_iff]
    exact fun hh => hn (hh k hk)
  refine And.intro (fun h => ?_) (fun h => ?_)
  · have h := of_decide_eq_true h
    have hi7 : 0 ≤ (i : Int) ∧ (i : Int) < 7 := ⟨by omega, h⟩
    have hw : IntKind.i64.wrap ((i : Int) + 1) = ((i + 1 : Nat) : Int) := wrap64 (by omega)
    refine And.intro hi7 (Exists.intro _ (And.intro (vcells_get' v hi7 []) ?_))
    refine And.intro (fun h1 => ?_) (fun h1 => ?_)
    · have h1 := of_decide_eq_false h1
      refine And.intro hi7 (Exists.intro _ (And.intro (vcells_get' v hi7 []) ?_))
      refine And.intro (fun h2 => ?_) (fun h2 => ?_)
      · have h2 := of_decide_eq_true h2
        refine VRet.mk [] (bv false) [] ⟨rfl, rfl, rfl⟩ ⟨?_, rfl⟩
        rw [Int.toNat_natCast] at h2
        rw [bad i (by omega) (by omega)]
      · have h2 := of_decide_eq_false h2
        refine Exists.intro _ (And.intro hw ?_)
        refine Exists.intro (i + 1) (Exists.intro [0] (And.intro ⟨⟨by omega, fun j hj => ?_⟩, by omega⟩ ⟨rfl, rfl, rfl⟩))
        by_cases hji : j = i
        · subst hji; rw [Int.toNat_natCast] at h1 h2; omega
        · exact hd j (by omega)
    · have h1 := of_decide_eq_true h1
      refine VRet.mk [] (bv false) [] ⟨rfl, rfl, rfl⟩ ⟨?_, rfl⟩
      rw [Int.toNat_natCast] at h1
      rw [bad i (by omega) (by omega)]
  · have h := of_decide_eq_false h
    have h7 : i = 7 := by omega
    subst h7
    refine VRet.mk [] (bv true) [] ⟨rfl, rfl, rfl⟩ ⟨?_, rfl⟩
    rw [vgoodB_iff.2 hd]
def ltB (a b c d : Int) : Bool := decide (a < c) || (decide (a = c) && decide (b < d))
theorem s_ref_Less (a b c d : Int) : Ctr Tryz.prog F_rostrumref7_Less [.agg (dcells a b), .agg (dcells c d)] [] (fun x H => x = bv (ltB a b c d) ∧ H = []) := by
  refine i_rostrumref7_Less.spec follows ?_
  refine And.intro (fun h1 => ?_) (fun h1 => ?_)
  · refine And.intro (fun h2 => ?_) (fun h2 => ?_)
    · refine VRet.mk [] (bv _) [] ⟨rfl, rfl, rfl⟩ ⟨?_, rfl⟩
      show bv _ = bv _
      rw [ltB, show decide (a < c) = false from h1, show decide (a = c) = true from h2]; rfl
    · refine VRet.mk [] (bv _) [] ⟨rfl, rfl, rfl⟩ ⟨?_, rfl⟩
      show bv _ = bv _
      rw [ltB, show decide (a < c) = false from h1, show decide (a = c) = false from h2]; rfl
  · refine VRet.mk [] (bv _) [] ⟨rfl, rfl, rfl⟩ ⟨?_, rfl⟩
    show bv _ = bv _
    rw [ltB, show decide (a < c) = true from h1]; rfl
end Go.Proofs

namespace Go.Proofs
open Go Go.V Go.Lib
set_option maxRecDepth 100000
set_option linter.unusedVariables false

/-! ### The document's own house -/
structure RH where
  v : Nat → Int
  L : List ST
  R : List ST
  us : List ByteArray
  sp : List ByteArray
  su : List Int
  cl : List ((Int × Int) × OC)
/-- Where a row lies. -/
structure Rw where
  xs : List Value
  o : Nat
  c : Nat
structure RQ where
  l : Rw
  r : Rw
  u : Rw
  p : Rw
  s : Rw
  e : Rw
def bcl (t : ByteArray) : List Value := [.string t]
def ncl (n : Int) : List Value := [.int .i64 n]
def ecl (e : (Int × Int) × OC) : List Value := [.int .i64 e.1.1, .int .i64 e.1.2, .int .i64 e.2.br, .int .i64 e.2.bn, .string e.2.user, .int .i64 e.2.amount]
abbrev hoR (w : RH) (q : RQ) : List SO := [.cells (vcells w.v ++ [.sl 1 q.l.o w.L.length q.l.c, .sl 2 q.r.o w.R.length q.r.c, .sl 3 q.u.o w.us.length q.u.c, .sl 4 q.p.o w.sp.length q.p.c, .sl 5 q.s.o w.su.length q.s.c, .sl 6 q.e.o w.cl.length q.e.c]) T_rostrumref24_House,
  .arr q.l.xs T_rostrumref24_Step, .arr q.r.xs T_rostrumref24_Step, .arr q.u.xs T_string, .arr q.p.xs T_string, .arr q.s.xs T_int64, .arr q.e.xs T_rostrumref24_outcome]
structure RK (w : RH) (q : RQ) : Prop where
  l : RowG stcl 19 q.l.xs q.l.o q.l.c w.L
  r : RowG stcl 19 q.r.xs q.r.o q.r.c w.R
  u : RowG bcl 1 q.u.xs q.u.o q.u.c w.us
  p : RowG bcl 1 q.p.xs q.p.o q.p.c w.sp
  s : RowG ncl 1 q.s.xs q.s.o q.s.c w.su
  e : RowG ecl 6 q.e.xs q.e.o q.e.c w.cl
  ll : w.L.length ≤ 1000
  rl : w.R.length ≤ 1000
  ul : w.us.length ≤ 1000
  pl : w.sp.length ≤ 1000
  sl : w.su.length = w.sp.length
  el : w.cl.length ≤ 1000
theorem RowG.room {α : Type} {cl : α → List Value} {k : Nat} {xs : List Value} {o c : Nat} {d : List α} (h : RowG cl k xs o c d) : o + d.length * k ≤ xs.length := by
  have := h.2.1
  have := Nat.mul_le_mul_right k h.1
  omega
def regF (w : RH) (f : ByteArray) : Bool := w.us.any fun t => decide (t = f)
theorem s_Registered (h : Nat → Option Obj) (hc : CaseH h) (w : RH) (q : RQ) (hk : RK w q) (u : ByteArray) (hu : u.size ≤ 100000000) :
    Ctr Tryz.prog F_rostrumref24_House_Registered [.ptr 0 0, .raw (.string u)] (hoR w q ++ [.heap h]) (fun r H => r = bv (regF w (foldB u)) ∧ H = hoR w q ++ [.heap h]) := by
  have fin : ∀ (b : Bool) (l : List SO), b = regF w (foldB u) → VRet 8 (bv b) (hoR w q ++ .heap h :: l) (fun r H => r = bv (regF w (foldB u)) ∧ H = hoR w q ++ [.heap h]) := by
    rintro b l rfl
    exact VRet.mk [0, 1, 2, 3, 4, 5, 6, 7] _ (hoR w q ++ [.heap h]) ⟨rfl, rfl, rfl⟩ ⟨rfl, rfl⟩
  refine i_rostrumref24_House_Registered.spec follows ?_
  refine VCall.mk [7] (s_ref_Fold h hc u hu) ⟨rfl, rfl, rfl⟩ ?_
  rintro _ _ ⟨rfl, rfl⟩
  refine VLoop.mk Nat (fun i => [(0, .ptr 0 0), (5, .raw (.string (foldB u))), (6, iv i)]) (fun _ => hoR w q ++ [.heap h]) (fun i => i ≤ w.us.length ∧ ∀ k (hk : k < w.us.length), k < i → w.us[k] ≠ foldB u) (fun i => w.us.length - i) 0 [0, 1, 2, 3, 4, 5, 6, 7]
    ⟨⟨Nat.zero_le _, fun k _ hk => absurd hk (Nat.not_lt_zero k)⟩, rfl, rfl, rfl⟩ ?_
  rintro i ⟨hi, hno⟩ g
  have hul := hk.ul
  refine And.intro (fun t1 => ?_) (fun t1 => ?_)
  · have t1 : (i : Int) < (w.us.length : Nat) := of_decide_eq_true t1
    have hil : i < w.us.length := by omega
    have hwi : IntKind.i64.wrap ((i : Int) + 1) = ((i + 1 : Nat) : Int) := wrap64 (by omega)
    have hx := RowG.one hk.u (fun _ => rfl) hil
    refine And.intro ⟨Int.natCast_nonneg i, t1, (RowG.room hk.u)⟩ (Exists.intro _ (And.intro (by rw [Int.toNat_natCast]; exact hx) ?_))
    refine And.intro (fun t2 => ?_) (fun t2 => ?_)
    · rw [strB] at t2
      have t2 : w.us[i] = foldB u := of_decide_eq_true t2
      exact fin true _ (List.any_eq_true.2 ⟨_, List.getElem_mem hil, decide_eq_true t2⟩).symm
    · rw [strB] at t2
      have t2 : ¬ w.us[i] = foldB u := of_decide_eq_false t2
      refine Exists.intro _ (And.intro hwi ?_)
      refine Exists.intro (i + 1) (Exists.intro [0, 1, 2, 3, 4, 5, 6, 7] (And.intro ⟨⟨hil, fun k hkl hk1 => ?_⟩, by omega⟩ ⟨rfl, rfl, rfl⟩))
      by_cases e : k = i
      · subst e; exact t2
      · exact hno k hkl (by omega)
  · have hil : i = w.us.length := by have t1 := of_decide_eq_false t1; omega
    refine fin false _ (Bool.eq_false_iff.2 fun hm => ?_).symm
    obtain ⟨t, ht, he⟩ := List.any_eq_true.1 hm
    obtain ⟨k, hkl, rfl⟩ := List.mem_iff_getElem.1 ht
    exact hno k hkl (by omega) (of_decide_eq_true he)
end Go.Proofs

namespace Go.Proofs
open Go Go.V Go.Lib
set_option maxRecDepth 100000
set_option linter.unusedVariables false

theorem cut_sub {xs : List Value} {o n : Nat} {l : List Value} (h : V.cut xs o n = some l) (j k : Nat) (hk : j + k ≤ n) : V.cut xs (o + j) k = some ((l.drop j).take k) := by
  obtain ⟨h1, h2⟩ := cut_spec h
  by_cases h0 : k = 0
  · subst h0
    simp only [List.take_zero]
    cases xs <;> cases (o + j) <;> rfl
  · have hlen : o + j + k ≤ xs.length := by
      have h3 := h2 (j + k - 1) (by omega)
      have h4 : j + k - 1 < l.length := by omega
      rw [List.getElem?_eq_getElem h4] at h3
      have := (List.getElem?_eq_some_iff.1 h3.symm).1
      omega
    rw [cut_take xs (o + j) k hlen]
    congr 1
    apply List.ext_getElem?
    intro i
    by_cases hi : i < k
    · rw [List.getElem?_take_of_lt hi, List.getElem?_drop, List.getElem?_take_of_lt hi, List.getElem?_drop, h2 (j + i) (by omega)]
      congr 1; omega
    · rw [List.getElem?_eq_none (by simp; omega), List.getElem?_eq_none (by simp; omega)]

set_option maxHeartbeats 2000000 in
theorem find_at {α : Type} {p : α → Bool} : ∀ {l : List α} {i : Nat} (hi : i < l.length), (∀ k (hk : k < l.length), k < i → p l[k] = false) → p l[i] = true → l.find? p = some l[i]
  | a :: l, 0, _, _, h => by simp only [List.getElem_cons_zero] at h ⊢; simp [h]
  | a :: l, i + 1, hi, h0, h => by
    have ha : p a = false := h0 0 (by simp) (by omega)
    rw [List.find?_cons, ha]
    simp only [List.getElem_cons_succ] at h ⊢
    exact find_at (by simpa using hi) (fun k hk hki => h0 (k + 1) (by simp; omega) (by omega)) h
theorem find_no {α : Type} {p : α → Bool} {l : List α} (h : ∀ k (hk : k < l.length), p l[k] = false) : l.find? p = none := by
  rw [List.find?_eq_none]
  intro x hx
  obtain ⟨k, hk, rfl⟩ := List.mem_iff_getElem.1 hx
  simp [h k hk]
def isD (d : Int × Int) (s : ST) : Bool := decide (s.rep = d.1) && decide (s.n = d.2)
def findR (w : RH) (k : Int) (d : Int × Int) : Option ST := w.L.find? fun s => isD d s && decide (s.kind = k)
def winR (w : RH) (d : Int × Int) : Option OC := (w.cl.find? fun e => decide (e.1.1 = d.1) && decide (e.1.2 = d.2)).map (·.2)
theorem s_find (w : RH) (q : RQ) (hk : RK w q) (kd : Int) (d : Int × Int) :
    Ctr Tryz.prog F_rostrumref24_House_find [.ptr 0 0, iv kd, .agg (dcells d.1 d.2)] (hoR w q) (fun r H => r = .tup [.agg (stcells ((findR w kd d).getD zeroT')), bv (findR w kd d).isSome] ∧ H = hoR w q) := by
  have fin : ∀ (o : Option ST) (l : List SO), o = findR w kd d → VRet 7 (.tup [.agg (stcells (o.getD zeroT')), bv o.isSome]) (hoR w q ++ l) (fun r H => r = .tup [.agg (stcells ((findR w kd d).getD zeroT')), bv (findR w kd d).isSome] ∧ H = hoR w q) := by
    rintro o l rfl
    exact VRet.mk [0, 1, 2, 3, 4, 5, 6] _ (hoR w q) ⟨rfl, rfl, rfl⟩ ⟨rfl, rfl⟩
  refine i_rostrumref24_House_find.spec follows ?_
  refine VLoop.mk Nat (fun i => [(0, .ptr 0 0), (1, iv kd), (5, .ptr 7 0), (6, .ptr 8 0), (8, iv i)]) (fun _ => hoR w q ++ [.cells (dcells d.1 d.2) T_api_Dot, .cells (stcells zeroT') T_rostrumref24_Step]) (fun i => i ≤ w.L.length ∧ ∀ k (hk : k < w.L.length), k < i → (isD d w.L[k] && decide (w.L[k].kind = kd)) = false) (fun i => w.L.length - i) 0 [0, 1, 2, 3, 4, 5, 6, 7, 8]
    ⟨⟨Nat.zero_le _, fun k _ hk => absurd hk (Nat.not_lt_zero k)⟩, rfl, rfl, rfl⟩ ?_
  rintro i ⟨hi, hno⟩ g
  have hul := hk.ll
  refine And.intro (fun t1 => ?_) (fun t1 => ?_)
  · have t1 : (i : Int) < (w.L.length : Nat) := of_decide_eq_true t1
    have hil : i < w.L.length := by omega
    have hwi : IntKind.i64.wrap ((i : Int) + 1) = ((i + 1 : Nat) : Int) := wrap64 (by omega)
    have hx := hk.l.cut (fun _ => rfl) hil
    have hx2 := cut_sub hx 1 2 (by omega)
    have h0 := hk.l.at (fun _ => rfl) hil (j := 0) (by omega)
    have next : (isD d w.L[i] && decide (w.L[i].kind = kd)) = false → (i + 1 ≤ w.L.length ∧ ∀ k (hk : k < w.L.length), k < i + 1 → (isD d w.L[k] && decide (w.L[k].kind = kd)) = false) := fun hq => ⟨hil, fun k hkl hk1 => by
      by_cases e : k = i
      · subst e; exact hq
      · exact hno k hkl (by omega)⟩
    refine And.intro ⟨Int.natCast_nonneg i, t1, (RowG.room hk.l)⟩ (Exists.intro _ (And.intro (by rw [Int.toNat_natCast]; exact hx2) ?_))
    refine And.intro (fun t2 => ?_) (fun t2 => ?_)
    · have t2 : isD d w.L[i] = true := t2
      refine And.intro ⟨Int.natCast_nonneg i, t1, RowG.room hk.l⟩ (Exists.intro _ (And.intro (by rw [Int.toNat_natCast]; exact h0) ?_))
      refine And.intro (fun t3 => ?_) (fun t3 => ?_)
      · have t3 : decide (w.L[i].kind = kd) = true := t3
        refine And.intro ⟨Int.natCast_nonneg i, t1, RowG.room hk.l⟩ (Exists.intro _ (And.intro (by rw [Int.toNat_natCast]; exact hx) ?_))
        exact fin (some w.L[i]) _ (find_at hil hno (by rw [t2, t3]; rfl)).symm
      · have t3 : decide (w.L[i].kind = kd) = false := t3
        refine Exists.intro _ (And.intro hwi ?_)
        exact Exists.intro (i + 1) (Exists.intro [0, 1, 2, 3, 4, 5, 6, 7, 8] (And.intro ⟨next (by rw [t2, t3]; rfl), by omega⟩ ⟨rfl, rfl, rfl⟩))
    · have t2 : isD d w.L[i] = false := t2
      refine Exists.intro _ (And.intro hwi ?_)
      exact Exists.intro (i + 1) (Exists.intro [0, 1, 2, 3, 4, 5, 6, 7, 8] (And.intro ⟨next (by rw [t2]; rfl), by omega⟩ ⟨rfl, rfl, rfl⟩))
  · have hil : i = w.L.length := by have t1 := of_decide_eq_false t1; omega
    exact fin none _ (find_no fun k hk => hno k hk (by omega)).symm
/-! ### Outcomes -/
def wonV : Option OC → SV
  | none => .tup [.agg (dcells 0 0), .raw (.string es), iv 0, bv false]
  | some o => .tup [.agg (dcells o.br o.bn), .raw (.string o.user), iv o.amount, bv true]
theorem s_refWinner (w : RH) (q : RQ) (hk : RK w q) (d : Int × Int) :
    Ctr Tryz.prog F_rostrumref24_House_Winner [.ptr 0 0, .agg (dcells d.1 d.2)] (hoR w q) (fun r H => r = wonV (winR w d) ∧ H = hoR w q) := by
  have fin : ∀ (o : Option OC) (l : List SO), o = winR w d → VRet 7 (wonV o) (hoR w q ++ l) (fun r H => r = wonV (winR w d) ∧ H = hoR w q) := by
    rintro o l rfl
    exact VRet.mk [0, 1, 2, 3, 4, 5, 6] (wonV (winR w d)) (hoR w q) ⟨by cases winR w d <;> rfl, rfl, rfl⟩ ⟨rfl, rfl⟩
  refine i_rostrumref24_House_Winner.spec follows ?_
  refine VLoop.mk Nat (fun i => [(0, .ptr 0 0), (3, .ptr 7 0), (4, .ptr 8 0), (8, iv i)]) (fun _ => hoR w q ++ [.cells (dcells d.1 d.2) T_api_Dot, .cells (dcells 0 0) T_api_Dot]) (fun i => i ≤ w.cl.length ∧ ∀ k (hk : k < w.cl.length), k < i → (decide (w.cl[k].1.1 = d.1) && decide (w.cl[k].1.2 = d.2)) = false) (fun i => w.cl.length - i) 0 [0, 1, 2, 3, 4, 5, 6, 7, 8]
    ⟨⟨Nat.zero_le _, fun k _ hk => absurd hk (Nat.not_lt_zero k)⟩, rfl, rfl, rfl⟩ ?_
  rintro i ⟨hi, hno⟩ g
  have hul := hk.el
  refine And.intro (fun t1 => ?_) (fun t1 => ?_)
  · have t1 : (i : Int) < (w.cl.length : Nat) := of_decide_eq_true t1
    have hil : i < w.cl.length := by omega
    have hwi : IntKind.i64.wrap ((i : Int) + 1) = ((i + 1 : Nat) : Int) := wrap64 (by omega)
    have hx := hk.e.cut (fun _ => rfl) hil
    have hx0 := cut_sub hx 0 2 (by omega)
    have hx2 := cut_sub hx 2 2 (by omega)
    have h4 := hk.e.at (fun _ => rfl) hil (j := 4) (by omega)
    have h5 := hk.e.at (fun _ => rfl) hil (j := 5) (by omega)
    have hni : (0 : Int) ≤ (i : Int) ∧ (i : Int) < (w.cl.length : Nat) ∧ q.e.o + w.cl.length * 6 ≤ q.e.xs.length := ⟨Int.natCast_nonneg i, t1, RowG.room hk.e⟩
    refine And.intro hni (Exists.intro _ (And.intro (by rw [Int.toNat_natCast]; exact hx0) ?_))
    refine And.intro (fun t2 => ?_) (fun t2 => ?_)
    · have t2 : (decide (w.cl[i].1.1 = d.1) && decide (w.cl[i].1.2 = d.2)) = true := t2
      refine And.intro hni (Exists.intro _ (And.intro (by rw [Int.toNat_natCast]; exact hx2) ?_))
      refine And.intro hni (Exists.intro _ (And.intro (by rw [Int.toNat_natCast]; exact h4) ?_))
      refine And.intro hni (Exists.intro _ (And.intro (by rw [Int.toNat_natCast]; exact h5) ?_))
      have e : winR w d = some w.cl[i].2 := by unfold winR; rw [find_at hil hno t2]; rfl
      refine And.intro rfl ?_
      refine And.intro rfl ?_
      refine And.intro (And.intro hni rfl) ?_
      refine And.intro (Exists.intro _ (And.intro (by rw [Int.toNat_natCast]; exact h4) rfl)) ?_
      refine And.intro rfl ?_
      refine And.intro rfl ?_
      refine And.intro (And.intro hni rfl) ?_
      refine And.intro (Exists.intro _ (And.intro (by rw [Int.toNat_natCast]; exact h5) rfl)) ?_
      exact fin (some w.cl[i].2) _ e.symm
    · have t2 : (decide (w.cl[i].1.1 = d.1) && decide (w.cl[i].1.2 = d.2)) = false := t2
      refine Exists.intro _ (And.intro hwi ?_)
      refine Exists.intro (i + 1) (Exists.intro [0, 1, 2, 3, 4, 5, 6, 7, 8] (And.intro ⟨⟨hil, fun k hkl hk1 => ?_⟩, by omega⟩ ⟨rfl, rfl, rfl⟩))
      by_cases e : k = i
      · subst e; exact t2
      · exact hno k hkl (by omega)
  · have hil : i = w.cl.length := by have t1 := of_decide_eq_false t1; omega
    have e : winR w d = none := by unfold winR; rw [find_no fun k hk => hno k hk (by omega)]; rfl
    exact fin none _ e.symm
/-! ### What one withdrew -/
def wdS (f : ByteArray) : List ByteArray → List Int → Int
  | a :: l, n :: m => (bif decide (a = f) then n else 0) + wdS f l m
  | _, _ => 0
theorem wdS_snoc (f : ByteArray) : ∀ {l : List ByteArray} {m : List Int} {a : ByteArray} {n : Int}, l.length = m.length → wdS f (l ++ [a]) (m ++ [n]) = wdS f l m + (bif decide (a = f) then n else 0)
  | [], [], a, n, _ => by simp [wdS]
  | b :: l, p :: m, a, n, h => by
    simp only [List.cons_append, wdS]
    rw [wdS_snoc f (by simpa using h)]
    omega
theorem wdS_bound (f : ByteArray) : ∀ {l : List ByteArray} {m : List Int}, (∀ n, n ∈ m → 0 ≤ n ∧ n ≤ 1000000000) → 0 ≤ wdS f l m ∧ wdS f l m ≤ 1000000000 * m.length
  | [], m, _ => by simp [wdS]; omega
  | b :: l, [], _ => by simp [wdS]
  | b :: l, p :: m, h => by
    have h1 := h p (by simp)
    have h2 := wdS_bound f (l := l) (m := m) (fun n hn => h n (by simp [hn]))
    simp only [wdS, List.length_cons]
    cases decide (b = f) <;> simp only [cond_true, cond_false] <;> omega
theorem s_withdrawn (h : Nat → Option Obj) (hc : CaseH h) (w : RH) (q : RQ) (hk : RK w q) (hs : ∀ n, n ∈ w.su → 0 ≤ n ∧ n ≤ 1000000000) (u : ByteArray) (hu : u.size ≤ 100000000) :
    Ctr Tryz.prog F_rostrumref24_House_withdrawn [.ptr 0 0, .raw (.string u)] (hoR w q ++ [.heap h]) (fun r H => r = iv (wdS (foldB u) w.sp w.su) ∧ H = hoR w q ++ [.heap h]) := by
  refine i_rostrumref24_House_withdrawn.spec follows ?_
  refine VLoop.mk Nat (fun i => [(0, .ptr 0 0), (1, .raw (.string u)), (5, iv (wdS (foldB u) (w.sp.take i) (w.su.take i))), (6, iv i)]) (fun _ => hoR w q ++ [.heap h]) (fun i => i ≤ w.sp.length) (fun i => w.sp.length - i) 0 [0, 1, 2, 3, 4, 5, 6, 7]
    ⟨Nat.zero_le _, rfl, rfl, rfl⟩ ?_
  rintro i hi g
  have hul := hk.pl
  have hsl := hk.sl
  refine And.intro (fun t1 => ?_) (fun t1 => ?_)
  · have t1 : (i : Int) < (w.sp.length : Nat) := of_decide_eq_true t1
    have hil : i < w.sp.length := by omega
    have hil2 : i < w.su.length := by omega
    have hwi : IntKind.i64.wrap ((i : Int) + 1) = ((i + 1 : Nat) : Int) := wrap64 (by omega)
    have hx := RowG.one hk.p (fun _ => rfl) hil
    have hy := RowG.one hk.s (fun _ => rfl) hil2
    have hni : (0 : Int) ≤ (i : Int) ∧ (i : Int) < (w.sp.length : Nat) ∧ q.p.o + w.sp.length * 1 ≤ q.p.xs.length := ⟨Int.natCast_nonneg i, t1, RowG.room hk.p⟩
    have hnj : (0 : Int) ≤ (i : Int) ∧ (i : Int) < (w.su.length : Nat) ∧ q.s.o + w.su.length * 1 ≤ q.s.xs.length := ⟨Int.natCast_nonneg i, by omega, RowG.room hk.s⟩
    have hb := wdS_bound (foldB u) (l := w.sp.take i) (m := w.su.take i) (fun n hn => hs n (List.mem_of_mem_take hn))
    have hbl : (w.su.take i).length = i := by rw [List.length_take]; omega
    have hpl : (w.sp.take i).length = i := by rw [List.length_take]; omega
    have hsi := hs _ (List.getElem_mem hil2)
    have hstep : wdS (foldB u) (w.sp.take (i + 1)) (w.su.take (i + 1)) = wdS (foldB u) (w.sp.take i) (w.su.take i) + (bif decide (w.sp[i] = foldB u) then w.su[i] else 0) := by
      rw [← List.take_append_getElem hil, ← List.take_append_getElem hil2]
      exact wdS_snoc _ (by omega)
    refine And.intro hni (Exists.intro _ (And.intro (by rw [Int.toNat_natCast]; exact hx) ?_))
    refine VCall.mk [7] (s_ref_Fold h hc u hu) ⟨rfl, rfl, rfl⟩ ?_
    rintro _ _ ⟨rfl, rfl⟩
    refine And.intro rfl (And.intro rfl ?_)
    refine And.intro (And.intro hni rfl) ?_
    refine And.intro (Exists.intro _ (And.intro (by rw [Int.toNat_natCast]; exact hx) rfl)) ?_
    refine And.intro (fun t2 => ?_) (fun t2 => ?_)
    · rw [strB] at t2
      have t2 : decide (w.sp[i] = foldB u) = true := t2
      rw [t2] at hstep
      have hw : IntKind.i64.wrap (wdS (foldB u) (w.sp.take i) (w.su.take i) + w.su[i]) = wdS (foldB u) (w.sp.take i) (w.su.take i) + w.su[i] := wrap64 (by omega)
      refine And.intro hnj (Exists.intro _ (And.intro (by rw [Int.toNat_natCast]; exact hy) ?_))
      refine Exists.intro _ (And.intro hw ?_)
      refine Exists.intro _ (And.intro hwi ?_)
      exact Exists.intro (i + 1) (Exists.intro [0, 1, 2, 3, 4, 5, 6, 7] (And.intro ⟨hil, by omega⟩ ⟨by simp only [hstep]; rfl, rfl, rfl⟩))
    · rw [strB] at t2
      have t2 : decide (w.sp[i] = foldB u) = false := t2
      rw [t2] at hstep
      have hstep : wdS (foldB u) (w.sp.take (i + 1)) (w.su.take (i + 1)) = wdS (foldB u) (w.sp.take i) (w.su.take i) := by simpa using hstep
      refine Exists.intro _ (And.intro hwi ?_)
      exact Exists.intro (i + 1) (Exists.intro [0, 1, 2, 3, 4, 5, 6, 7] (And.intro ⟨hil, by omega⟩ ⟨by simp only [hstep]; rfl, rfl, rfl⟩))
  · have hil : i = w.sp.length := by have t1 := of_decide_eq_false t1; omega
    subst hil
    have e : wdS (foldB u) (w.sp.take w.sp.length) (w.su.take w.sp.length) = wdS (foldB u) w.sp w.su := by rw [List.take_length, ← hsl, List.take_length]
    exact VRet.mk [0, 1, 2, 3, 4, 5, 6, 7] (iv (wdS (foldB u) (w.sp.take w.sp.length) (w.su.take w.sp.length))) (hoR w q ++ [.heap h]) ⟨rfl, rfl, rfl⟩ ⟨by rw [e], rfl⟩
end Go.Proofs

namespace Go.Proofs
open Go Go.V Go.Lib
set_option maxRecDepth 100000
set_option linter.unusedVariables false

set_option maxHeartbeats 2000000 in
theorem s_refGood1 (h : Nat → Option Obj) (hu : Uni h) (s : ST) (h1 : s.name.size ≤ 1000) (h2 : s.user.size ≤ 1000) (hk : s.kind = 1) :
    Ctr Tryz.prog F_rostrumref24_Good [.agg (stcells s)] [.heap h] (fun x H => x = bv (goodT s) ∧ H = [.heap h]) := by
  have fin : ∀ (b : Bool) (l : List SO), b = goodT s → VRet 1 (bv b) (.heap h :: l) (fun x H => x = bv (goodT s) ∧ H = [.heap h]) := by
    rintro b l rfl
    exact VRet.mk [0] _ [.heap h] ⟨rfl, rfl, rfl⟩ ⟨rfl, rfl⟩
  refine i_rostrumref24_Good.spec follows ?_
  have bad : ∀ l : List SO, headT s = false → VRet 1 (bv false) (.heap h :: l) (fun x H => x = bv (goodT s) ∧ H = [.heap h]) := fun l hb => fin _ _ (by simp [goodT, hb])
  refine And.intro (fun k1 => ?_) (fun k1 => bad _ (by simp at k1; simp [headT]; omega))
  refine And.intro (fun k2 => ?_) (fun k2 => bad _ (by simp at k2; simp [headT]; omega))
  refine VCall.mk [] (s_ref_May s.rep s.n) ⟨rfl, rfl, rfl⟩ ?_
  rintro _ _ ⟨rfl, rfl⟩
  refine And.intro (fun k3 => ?_) (fun k3 => bad _ (by simp at k3; simp [headT, k3]))
  refine VCall.mk [] (s_ref_Vgood s.seen) ⟨rfl, rfl, rfl⟩ ?_
  rintro _ _ ⟨rfl, rfl⟩
  refine And.intro (fun k4 => ?_) (fun k4 => bad _ (by simp at k4; simp [headT, k4]))
  refine And.intro (fun k5 => ?_) (fun k5 => bad _ (by simp at k5; simp [headT]; omega))
  refine And.intro (fun k6 => bad _ (by simp at k6; simp [headT]; omega)) (fun k6 => ?_)
  have k1 : 1 ≤ s.kind := by simpa using k1
  have k2 : s.kind ≤ 7 := by simpa using k2
  have k3 : isDot s.rep s.n = true := by simpa using k3
  have k4 : vgoodB s.seen = true := by simpa using k4
  have k5 : 0 ≤ s.reds := by simpa using k5
  have k6 : s.reds ≤ 1000 := by simpa using k6
  have hh : headT s = true := by simp [headT, k1, k2, k3, k4, k5, k6]
  have hdot : (0 ≤ s.rep ∧ s.rep < 7) ∧ 1 ≤ s.n ∧ s.n ≤ 1099511627776 := by
    simp only [isDot, isRep, Bool.and_eq_true, decide_eq_true_eq] at k3; omega
  have hw : IntKind.i64.wrap (s.n - 1) = s.n - 1 := wrap64 (by omega)
  refine And.intro (fun r1 => ?_) (fun r1 => absurd (of_decide_eq_false r1) (by omega))
  refine And.intro hdot.1 (Exists.intro _ (And.intro (stcells_seen s hdot.1) ?_))
  refine Exists.intro _ (And.intro hw ?_)
  repeat' (first
    | (refine And.intro (fun r => ?_) (fun r => absurd r (by rw [hk]; decide)))
    | (refine And.intro (fun r => absurd r (by rw [hk]; decide)) (fun r => ?_))
    | (refine VCall.mk [0] (s_ref_GoodName h hu s.name (Nat.le_trans h1 (by decide))) ⟨rfl, rfl, rfl⟩ ?_; rintro _ _ ⟨rfl, rfl⟩)
    | (refine VCall.mk [0] (s_ref_GoodName h hu s.user (Nat.le_trans h2 (by decide))) ⟨rfl, rfl, rfl⟩ ?_; rintro _ _ ⟨rfl, rfl⟩)
    | (refine VCall.mk [] (s_ref_May s.ar s.an) ⟨rfl, rfl, rfl⟩ ?_; rintro _ _ ⟨rfl, rfl⟩)
    | (refine VCall.mk [] (s_ref_May s.br s.bn) ⟨rfl, rfl, rfl⟩ ?_; rintro _ _ ⟨rfl, rfl⟩)
    | (refine And.intro (fun r => fin _ _ (by (clear fin bad; simp_all [goodT, redT, partT, wordB, pointB, numB, userK, auctK, amntK] <;> (try (intros; omega))))) (fun r => ?_))
    | (refine And.intro (fun r => ?_) (fun r => fin _ _ (by (clear fin bad; simp_all [goodT, redT, partT, wordB, pointB, numB, userK, auctK, amntK] <;> (try (intros; omega))))))
    | (refine And.intro (fun r => ?_) (fun r => ?_)))
  all_goals exact fin _ _ (by (clear fin bad; simp_all [goodT, redT, partT, wordB, pointB, numB, userK, auctK, amntK] <;> (try (intros; omega))))
set_option maxHeartbeats 2000000 in
theorem s_refGood2 (h : Nat → Option Obj) (hu : Uni h) (s : ST) (h1 : s.name.size ≤ 1000) (h2 : s.user.size ≤ 1000) (hk : s.kind = 2) :
    Ctr Tryz.prog F_rostrumref24_Good [.agg (stcells s)] [.heap h] (fun x H => x = bv (goodT s) ∧ H = [.heap h]) := by
  have fin : ∀ (b : Bool) (l : List SO), b = goodT s → VRet 1 (bv b) (.heap h :: l) (fun x H => x = bv (goodT s) ∧ H = [.heap h]) := by
    rintro b l rfl
    exact VRet.mk [0] _ [.heap h] ⟨rfl, rfl, rfl⟩ ⟨rfl, rfl⟩
  refine i_rostrumref24_Good.spec follows ?_
  have bad : ∀ l : List SO, headT s = false → VRet 1 (bv false) (.heap h :: l) (fun x H => x = bv (goodT s) ∧ H = [.heap h]) := fun l hb => fin _ _ (by simp [goodT, hb])
  refine And.intro (fun k1 => ?_) (fun k1 => bad _ (by simp at k1; simp [headT]; omega))
  refine And.intro (fun k2 => ?_) (fun k2 => bad _ (by simp at k2; simp [headT]; omega))
  refine VCall.mk [] (s_ref_May s.rep s.n) ⟨rfl, rfl, rfl⟩ ?_
  rintro _ _ ⟨rfl, rfl⟩
  refine And.intro (fun k3 => ?_) (fun k3 => bad _ (by simp at k3; simp [headT, k3]))
  refine VCall.mk [] (s_ref_Vgood s.seen) ⟨rfl, rfl, rfl⟩ ?_
  rintro _ _ ⟨rfl, rfl⟩
  refine And.intro (fun k4 => ?_) (fun k4 => bad _ (by simp at k4; simp [headT, k4]))
  refine And.intro (fun k5 => ?_) (fun k5 => bad _ (by simp at k5; simp [headT]; omega))
  refine And.intro (fun k6 => bad _ (by simp at k6; simp [headT]; omega)) (fun k6 => ?_)
  have k1 : 1 ≤ s.kind := by simpa using k1
  have k2 : s.kind ≤ 7 := by simpa using k2
  have k3 : isDot s.rep s.n = true := by simpa using k3
  have k4 : vgoodB s.seen = true := by simpa using k4
  have k5 : 0 ≤ s.reds := by simpa using k5
  have k6 : s.reds ≤ 1000 := by simpa using k6
  have hh : headT s = true := by simp [headT, k1, k2, k3, k4, k5, k6]
  have hdot : (0 ≤ s.rep ∧ s.rep < 7) ∧ 1 ≤ s.n ∧ s.n ≤ 1099511627776 := by
    simp only [isDot, isRep, Bool.and_eq_true, decide_eq_true_eq] at k3; omega
  have hw : IntKind.i64.wrap (s.n - 1) = s.n - 1 := wrap64 (by omega)
  refine And.intro (fun r1 => ?_) (fun r1 => absurd (of_decide_eq_false r1) (by omega))
  refine And.intro hdot.1 (Exists.intro _ (And.intro (stcells_seen s hdot.1) ?_))
  refine Exists.intro _ (And.intro hw ?_)
  repeat' (first
    | (refine And.intro (fun r => ?_) (fun r => absurd r (by rw [hk]; decide)))
    | (refine And.intro (fun r => absurd r (by rw [hk]; decide)) (fun r => ?_))
    | (refine VCall.mk [0] (s_ref_GoodName h hu s.name (Nat.le_trans h1 (by decide))) ⟨rfl, rfl, rfl⟩ ?_; rintro _ _ ⟨rfl, rfl⟩)
    | (refine VCall.mk [0] (s_ref_GoodName h hu s.user (Nat.le_trans h2 (by decide))) ⟨rfl, rfl, rfl⟩ ?_; rintro _ _ ⟨rfl, rfl⟩)
    | (refine VCall.mk [] (s_ref_May s.ar s.an) ⟨rfl, rfl, rfl⟩ ?_; rintro _ _ ⟨rfl, rfl⟩)
    | (refine VCall.mk [] (s_ref_May s.br s.bn) ⟨rfl, rfl, rfl⟩ ?_; rintro _ _ ⟨rfl, rfl⟩)
    | (refine And.intro (fun r => fin _ _ (by (clear fin bad; simp_all [goodT, redT, partT, wordB, pointB, numB, userK, auctK, amntK] <;> (try (intros; omega))))) (fun r => ?_))
    | (refine And.intro (fun r => ?_) (fun r => fin _ _ (by (clear fin bad; simp_all [goodT, redT, partT, wordB, pointB, numB, userK, auctK, amntK] <;> (try (intros; omega))))))
    | (refine And.intro (fun r => ?_) (fun r => ?_)))
  all_goals exact fin _ _ (by (clear fin bad; simp_all [goodT, redT, partT, wordB, pointB, numB, userK, auctK, amntK] <;> (try (intros; omega))))
set_option maxHeartbeats 2000000 in
theorem s_refGood3 (h : Nat → Option Obj) (hu : Uni h) (s : ST) (h1 : s.name.size ≤ 1000) (h2 : s.user.size ≤ 1000) (hk : s.kind = 3) :
    Ctr Tryz.prog F_rostrumref24_Good [.agg (stcells s)] [.heap h] (fun x H => x = bv (goodT s) ∧ H = [.heap h]) := by
  have fin : ∀ (b : Bool) (l : List SO), b = goodT s → VRet 1 (bv b) (.heap h :: l) (fun x H => x = bv (goodT s) ∧ H = [.heap h]) := by
    rintro b l rfl
    exact VRet.mk [0] _ [.heap h] ⟨rfl, rfl, rfl⟩ ⟨rfl, rfl⟩
  refine i_rostrumref24_Good.spec follows ?_
  have bad : ∀ l : List SO, headT s = false → VRet 1 (bv false) (.heap h :: l) (fun x H => x = bv (goodT s) ∧ H = [.heap h]) := fun l hb => fin _ _ (by simp [goodT, hb])
  refine And.intro (fun k1 => ?_) (fun k1 => bad _ (by simp at k1; simp [headT]; omega))
  refine And.intro (fun k2 => ?_) (fun k2 => bad _ (by simp at k2; simp [headT]; omega))
  refine VCall.mk [] (s_ref_May s.rep s.n) ⟨rfl, rfl, rfl⟩ ?_
  rintro _ _ ⟨rfl, rfl⟩
  refine And.intro (fun k3 => ?_) (fun k3 => bad _ (by simp at k3; simp [headT, k3]))
  refine VCall.mk [] (s_ref_Vgood s.seen) ⟨rfl, rfl, rfl⟩ ?_
  rintro _ _ ⟨rfl, rfl⟩
  refine And.intro (fun k4 => ?_) (fun k4 => bad _ (by simp at k4; simp [headT, k4]))
  refine And.intro (fun k5 => ?_) (fun k5 => bad _ (by simp at k5; simp [headT]; omega))
  refine And.intro (fun k6 => bad _ (by simp at k6; simp [headT]; omega)) (fun k6 => ?_)
  have k1 : 1 ≤ s.kind := by simpa using k1
  have k2 : s.kind ≤ 7 := by simpa using k2
  have k3 : isDot s.rep s.n = true := by simpa using k3
  have k4 : vgoodB s.seen = true := by simpa using k4
  have k5 : 0 ≤ s.reds := by simpa using k5
  have k6 : s.reds ≤ 1000 := by simpa using k6
  have hh : headT s = true := by simp [headT, k1, k2, k3, k4, k5, k6]
  have hdot : (0 ≤ s.rep ∧ s.rep < 7) ∧ 1 ≤ s.n ∧ s.n ≤ 1099511627776 := by
    simp only [isDot, isRep, Bool.and_eq_true, decide_eq_true_eq] at k3; omega
  have hw : IntKind.i64.wrap (s.n - 1) = s.n - 1 := wrap64 (by omega)
  refine And.intro (fun r1 => ?_) (fun r1 => absurd (of_decide_eq_false r1) (by omega))
  refine And.intro hdot.1 (Exists.intro _ (And.intro (stcells_seen s hdot.1) ?_))
  refine Exists.intro _ (And.intro hw ?_)
  repeat' (first
    | (refine And.intro (fun r => ?_) (fun r => absurd r (by rw [hk]; decide)))
    | (refine And.intro (fun r => absurd r (by rw [hk]; decide)) (fun r => ?_))
    | (refine VCall.mk [0] (s_ref_GoodName h hu s.name (Nat.le_trans h1 (by decide))) ⟨rfl, rfl, rfl⟩ ?_; rintro _ _ ⟨rfl, rfl⟩)
    | (refine VCall.mk [0] (s_ref_GoodName h hu s.user (Nat.le_trans h2 (by decide))) ⟨rfl, rfl, rfl⟩ ?_; rintro _ _ ⟨rfl, rfl⟩)
    | (refine VCall.mk [] (s_ref_May s.ar s.an) ⟨rfl, rfl, rfl⟩ ?_; rintro _ _ ⟨rfl, rfl⟩)
    | (refine VCall.mk [] (s_ref_May s.br s.bn) ⟨rfl, rfl, rfl⟩ ?_; rintro _ _ ⟨rfl, rfl⟩)
    | (refine And.intro (fun r => fin _ _ (by (clear fin bad; simp_all [goodT, redT, partT, wordB, pointB, numB, userK, auctK, amntK] <;> (try (intros; omega))))) (fun r => ?_))
    | (refine And.intro (fun r => ?_) (fun r => fin _ _ (by (clear fin bad; simp_all [goodT, redT, partT, wordB, pointB, numB, userK, auctK, amntK] <;> (try (intros; omega))))))
    | (refine And.intro (fun r => ?_) (fun r => ?_)))
  all_goals exact fin _ _ (by (clear fin bad; simp_all [goodT, redT, partT, wordB, pointB, numB, userK, auctK, amntK] <;> (try (intros; omega))))
set_option maxHeartbeats 2000000 in
theorem s_refGood4 (h : Nat → Option Obj) (hu : Uni h) (s : ST) (h1 : s.name.size ≤ 1000) (h2 : s.user.size ≤ 1000) (hk : s.kind = 4) :
    Ctr Tryz.prog F_rostrumref24_Good [.agg (stcells s)] [.heap h] (fun x H => x = bv (goodT s) ∧ H = [.heap h]) := by
  have fin : ∀ (b : Bool) (l : List SO), b = goodT s → VRet 1 (bv b) (.heap h :: l) (fun x H => x = bv (goodT s) ∧ H = [.heap h]) := by
    rintro b l rfl
    exact VRet.mk [0] _ [.heap h] ⟨rfl, rfl, rfl⟩ ⟨rfl, rfl⟩
  refine i_rostrumref24_Good.spec follows ?_
  have bad : ∀ l : List SO, headT s = false → VRet 1 (bv false) (.heap h :: l) (fun x H => x = bv (goodT s) ∧ H = [.heap h]) := fun l hb => fin _ _ (by simp [goodT, hb])
  refine And.intro (fun k1 => ?_) (fun k1 => bad _ (by simp at k1; simp [headT]; omega))
  refine And.intro (fun k2 => ?_) (fun k2 => bad _ (by simp at k2; simp [headT]; omega))
  refine VCall.mk [] (s_ref_May s.rep s.n) ⟨rfl, rfl, rfl⟩ ?_
  rintro _ _ ⟨rfl, rfl⟩
  refine And.intro (fun k3 => ?_) (fun k3 => bad _ (by simp at k3; simp [headT, k3]))
  refine VCall.mk [] (s_ref_Vgood s.seen) ⟨rfl, rfl, rfl⟩ ?_
  rintro _ _ ⟨rfl, rfl⟩
  refine And.intro (fun k4 => ?_) (fun k4 => bad _ (by simp at k4; simp [headT, k4]))
  refine And.intro (fun k5 => ?_) (fun k5 => bad _ (by simp at k5; simp [headT]; omega))
  refine And.intro (fun k6 => bad _ (by simp at k6; simp [headT]; omega)) (fun k6 => ?_)
  have k1 : 1 ≤ s.kind := by simpa using k1
  have k2 : s.kind ≤ 7 := by simpa using k2
  have k3 : isDot s.rep s.n = true := by simpa using k3
  have k4 : vgoodB s.seen = true := by simpa using k4
  have k5 : 0 ≤ s.reds := by simpa using k5
  have k6 : s.reds ≤ 1000 := by simpa using k6
  have hh : headT s = true := by simp [headT, k1, k2, k3, k4, k5, k6]
  have hdot : (0 ≤ s.rep ∧ s.rep < 7) ∧ 1 ≤ s.n ∧ s.n ≤ 1099511627776 := by
    simp only [isDot, isRep, Bool.and_eq_true, decide_eq_true_eq] at k3; omega
  have hw : IntKind.i64.wrap (s.n - 1) = s.n - 1 := wrap64 (by omega)
  refine And.intro (fun r1 => ?_) (fun r1 => absurd (of_decide_eq_false r1) (by omega))
  refine And.intro hdot.1 (Exists.intro _ (And.intro (stcells_seen s hdot.1) ?_))
  refine Exists.intro _ (And.intro hw ?_)
  repeat' (first
    | (refine And.intro (fun r => ?_) (fun r => absurd r (by rw [hk]; decide)))
    | (refine And.intro (fun r => absurd r (by rw [hk]; decide)) (fun r => ?_))
    | (refine VCall.mk [0] (s_ref_GoodName h hu s.name (Nat.le_trans h1 (by decide))) ⟨rfl, rfl, rfl⟩ ?_; rintro _ _ ⟨rfl, rfl⟩)
    | (refine VCall.mk [0] (s_ref_GoodName h hu s.user (Nat.le_trans h2 (by decide))) ⟨rfl, rfl, rfl⟩ ?_; rintro _ _ ⟨rfl, rfl⟩)
    | (refine VCall.mk [] (s_ref_May s.ar s.an) ⟨rfl, rfl, rfl⟩ ?_; rintro _ _ ⟨rfl, rfl⟩)
    | (refine VCall.mk [] (s_ref_May s.br s.bn) ⟨rfl, rfl, rfl⟩ ?_; rintro _ _ ⟨rfl, rfl⟩)
    | (refine And.intro (fun r => fin _ _ (by (clear fin bad; simp_all [goodT, redT, partT, wordB, pointB, numB, userK, auctK, amntK] <;> (try (intros; omega))))) (fun r => ?_))
    | (refine And.intro (fun r => ?_) (fun r => fin _ _ (by (clear fin bad; simp_all [goodT, redT, partT, wordB, pointB, numB, userK, auctK, amntK] <;> (try (intros; omega))))))
    | (refine And.intro (fun r => ?_) (fun r => ?_)))
  all_goals exact fin _ _ (by (clear fin bad; simp_all [goodT, redT, partT, wordB, pointB, numB, userK, auctK, amntK] <;> (try (intros; omega))))
set_option maxHeartbeats 2000000 in
theorem s_refGood5 (h : Nat → Option Obj) (hu : Uni h) (s : ST) (h1 : s.name.size ≤ 1000) (h2 : s.user.size ≤ 1000) (hk : s.kind = 5) :
    Ctr Tryz.prog F_rostrumref24_Good [.agg (stcells s)] [.heap h] (fun x H => x = bv (goodT s) ∧ H = [.heap h]) := by
  have fin : ∀ (b : Bool) (l : List SO), b = goodT s → VRet 1 (bv b) (.heap h :: l) (fun x H => x = bv (goodT s) ∧ H = [.heap h]) := by
    rintro b l rfl
    exact VRet.mk [0] _ [.heap h] ⟨rfl, rfl, rfl⟩ ⟨rfl, rfl⟩
  refine i_rostrumref24_Good.spec follows ?_
  have bad : ∀ l : List SO, headT s = false → VRet 1 (bv false) (.heap h :: l) (fun x H => x = bv (goodT s) ∧ H = [.heap h]) := fun l hb => fin _ _ (by simp [goodT, hb])
  refine And.intro (fun k1 => ?_) (fun k1 => bad _ (by simp at k1; simp [headT]; omega))
  refine And.intro (fun k2 => ?_) (fun k2 => bad _ (by simp at k2; simp [headT]; omega))
  refine VCall.mk [] (s_ref_May s.rep s.n) ⟨rfl, rfl, rfl⟩ ?_
  rintro _ _ ⟨rfl, rfl⟩
  refine And.intro (fun k3 => ?_) (fun k3 => bad _ (by simp at k3; simp [headT, k3]))
  refine VCall.mk [] (s_ref_Vgood s.seen) ⟨rfl, rfl, rfl⟩ ?_
  rintro _ _ ⟨rfl, rfl⟩
  refine And.intro (fun k4 => ?_) (fun k4 => bad _ (by simp at k4; simp [headT, k4]))
  refine And.intro (fun k5 => ?_) (fun k5 => bad _ (by simp at k5; simp [headT]; omega))
  refine And.intro (fun k6 => bad _ (by simp at k6; simp [headT]; omega)) (fun k6 => ?_)
  have k1 : 1 ≤ s.kind := by simpa using k1
  have k2 : s.kind ≤ 7 := by simpa using k2
  have k3 : isDot s.rep s.n = true := by simpa using k3
  have k4 : vgoodB s.seen = true := by simpa using k4
  have k5 : 0 ≤ s.reds := by simpa using k5
  have k6 : s.reds ≤ 1000 := by simpa using k6
  have hh : headT s = true := by simp [headT, k1, k2, k3, k4, k5, k6]
  have hdot : (0 ≤ s.rep ∧ s.rep < 7) ∧ 1 ≤ s.n ∧ s.n ≤ 1099511627776 := by
    simp only [isDot, isRep, Bool.and_eq_true, decide_eq_true_eq] at k3; omega
  repeat' (first
    | (refine And.intro (fun r => ?_) (fun r => absurd r (by rw [hk]; decide)))
    | (refine And.intro (fun r => absurd r (by rw [hk]; decide)) (fun r => ?_))
    | (refine VCall.mk [0] (s_ref_GoodName h hu s.name (Nat.le_trans h1 (by decide))) ⟨rfl, rfl, rfl⟩ ?_; rintro _ _ ⟨rfl, rfl⟩)
    | (refine VCall.mk [0] (s_ref_GoodName h hu s.user (Nat.le_trans h2 (by decide))) ⟨rfl, rfl, rfl⟩ ?_; rintro _ _ ⟨rfl, rfl⟩)
    | (refine VCall.mk [] (s_ref_May s.ar s.an) ⟨rfl, rfl, rfl⟩ ?_; rintro _ _ ⟨rfl, rfl⟩)
    | (refine VCall.mk [] (s_ref_May s.br s.bn) ⟨rfl, rfl, rfl⟩ ?_; rintro _ _ ⟨rfl, rfl⟩)
    | (refine And.intro (fun r => fin _ _ (by (clear fin bad; simp_all [goodT, redT, partT, wordB, pointB, numB, userK, auctK, amntK] <;> (try (intros; omega))))) (fun r => ?_))
    | (refine And.intro (fun r => ?_) (fun r => fin _ _ (by (clear fin bad; simp_all [goodT, redT, partT, wordB, pointB, numB, userK, auctK, amntK] <;> (try (intros; omega))))))
    | (refine And.intro (fun r => ?_) (fun r => ?_)))
  all_goals exact fin _ _ (by (clear fin bad; simp_all [goodT, redT, partT, wordB, pointB, numB, userK, auctK, amntK] <;> (try (intros; omega))))
set_option maxHeartbeats 2000000 in
theorem s_refGood6 (h : Nat → Option Obj) (hu : Uni h) (s : ST) (h1 : s.name.size ≤ 1000) (h2 : s.user.size ≤ 1000) (hk : s.kind = 6) :
    Ctr Tryz.prog F_rostrumref24_Good [.agg (stcells s)] [.heap h] (fun x H => x = bv (goodT s) ∧ H = [.heap h]) := by
  have fin : ∀ (b : Bool) (l : List SO), b = goodT s → VRet 1 (bv b) (.heap h :: l) (fun x H => x = bv (goodT s) ∧ H = [.heap h]) := by
    rintro b l rfl
    exact VRet.mk [0] _ [.heap h] ⟨rfl, rfl, rfl⟩ ⟨rfl, rfl⟩
  refine i_rostrumref24_Good.spec follows ?_
  have bad : ∀ l : List SO, headT s = false → VRet 1 (bv false) (.heap h :: l) (fun x H => x = bv (goodT s) ∧ H = [.heap h]) := fun l hb => fin _ _ (by simp [goodT, hb])
  refine And.intro (fun k1 => ?_) (fun k1 => bad _ (by simp at k1; simp [headT]; omega))
  refine And.intro (fun k2 => ?_) (fun k2 => bad _ (by simp at k2; simp [headT]; omega))
  refine VCall.mk [] (s_ref_May s.rep s.n) ⟨rfl, rfl, rfl⟩ ?_
  rintro _ _ ⟨rfl, rfl⟩
  refine And.intro (fun k3 => ?_) (fun k3 => bad _ (by simp at k3; simp [headT, k3]))
  refine VCall.mk [] (s_ref_Vgood s.seen) ⟨rfl, rfl, rfl⟩ ?_
  rintro _ _ ⟨rfl, rfl⟩
  refine And.intro (fun k4 => ?_) (fun k4 => bad _ (by simp at k4; simp [headT, k4]))
  refine And.intro (fun k5 => ?_) (fun k5 => bad _ (by simp at k5; simp [headT]; omega))
  refine And.intro (fun k6 => bad _ (by simp at k6; simp [headT]; omega)) (fun k6 => ?_)
  have k1 : 1 ≤ s.kind := by simpa using k1
  have k2 : s.kind ≤ 7 := by simpa using k2
  have k3 : isDot s.rep s.n = true := by simpa using k3
  have k4 : vgoodB s.seen = true := by simpa using k4
  have k5 : 0 ≤ s.reds := by simpa using k5
  have k6 : s.reds ≤ 1000 := by simpa using k6
  have hh : headT s = true := by simp [headT, k1, k2, k3, k4, k5, k6]
  have hdot : (0 ≤ s.rep ∧ s.rep < 7) ∧ 1 ≤ s.n ∧ s.n ≤ 1099511627776 := by
    simp only [isDot, isRep, Bool.and_eq_true, decide_eq_true_eq] at k3; omega
  repeat' (first
    | (refine And.intro (fun r => ?_) (fun r => absurd r (by rw [hk]; decide)))
    | (refine And.intro (fun r => absurd r (by rw [hk]; decide)) (fun r => ?_))
    | (refine VCall.mk [0] (s_ref_GoodName h hu s.name (Nat.le_trans h1 (by decide))) ⟨rfl, rfl, rfl⟩ ?_; rintro _ _ ⟨rfl, rfl⟩)
    | (refine VCall.mk [0] (s_ref_GoodName h hu s.user (Nat.le_trans h2 (by decide))) ⟨rfl, rfl, rfl⟩ ?_; rintro _ _ ⟨rfl, rfl⟩)
    | (refine VCall.mk [] (s_ref_May s.ar s.an) ⟨rfl, rfl, rfl⟩ ?_; rintro _ _ ⟨rfl, rfl⟩)
    | (refine VCall.mk [] (s_ref_May s.br s.bn) ⟨rfl, rfl, rfl⟩ ?_; rintro _ _ ⟨rfl, rfl⟩)
    | (refine And.intro (fun r => fin _ _ (by (clear fin bad; simp_all [goodT, redT, partT, wordB, pointB, numB, userK, auctK, amntK] <;> (try (intros; omega))))) (fun r => ?_))
    | (refine And.intro (fun r => ?_) (fun r => fin _ _ (by (clear fin bad; simp_all [goodT, redT, partT, wordB, pointB, numB, userK, auctK, amntK] <;> (try (intros; omega))))))
    | (refine And.intro (fun r => ?_) (fun r => ?_)))
  all_goals exact fin _ _ (by (clear fin bad; simp_all [goodT, redT, partT, wordB, pointB, numB, userK, auctK, amntK] <;> (try (intros; omega))))
set_option maxHeartbeats 2000000 in
theorem s_refGood7 (h : Nat → Option Obj) (hu : Uni h) (s : ST) (h1 : s.name.size ≤ 1000) (h2 : s.user.size ≤ 1000) (hk : s.kind = 7) :
    Ctr Tryz.prog F_rostrumref24_Good [.agg (stcells s)] [.heap h] (fun x H => x = bv (goodT s) ∧ H = [.heap h]) := by
  have fin : ∀ (b : Bool) (l : List SO), b = goodT s → VRet 1 (bv b) (.heap h :: l) (fun x H => x = bv (goodT s) ∧ H = [.heap h]) := by
    rintro b l rfl
    exact VRet.mk [0] _ [.heap h] ⟨rfl, rfl, rfl⟩ ⟨rfl, rfl⟩
  refine i_rostrumref24_Good.spec follows ?_
  have bad : ∀ l : List SO, headT s = false → VRet 1 (bv false) (.heap h :: l) (fun x H => x = bv (goodT s) ∧ H = [.heap h]) := fun l hb => fin _ _ (by simp [goodT, hb])
  refine And.intro (fun k1 => ?_) (fun k1 => bad _ (by simp at k1; simp [headT]; omega))
  refine And.intro (fun k2 => ?_) (fun k2 => bad _ (by simp at k2; simp [headT]; omega))
  refine VCall.mk [] (s_ref_May s.rep s.n) ⟨rfl, rfl, rfl⟩ ?_
  rintro _ _ ⟨rfl, rfl⟩
  refine And.intro (fun k3 => ?_) (fun k3 => bad _ (by simp at k3; simp [headT, k3]))
  refine VCall.mk [] (s_ref_Vgood s.seen) ⟨rfl, rfl, rfl⟩ ?_
  rintro _ _ ⟨rfl, rfl⟩
  refine And.intro (fun k4 => ?_) (fun k4 => bad _ (by simp at k4; simp [headT, k4]))
  refine And.intro (fun k5 => ?_) (fun k5 => bad _ (by simp at k5; simp [headT]; omega))
  refine And.intro (fun k6 => bad _ (by simp at k6; simp [headT]; omega)) (fun k6 => ?_)
  have k1 : 1 ≤ s.kind := by simpa using k1
  have k2 : s.kind ≤ 7 := by simpa using k2
  have k3 : isDot s.rep s.n = true := by simpa using k3
  have k4 : vgoodB s.seen = true := by simpa using k4
  have k5 : 0 ≤ s.reds := by simpa using k5
  have k6 : s.reds ≤ 1000 := by simpa using k6
  have hh : headT s = true := by simp [headT, k1, k2, k3, k4, k5, k6]
  have hdot : (0 ≤ s.rep ∧ s.rep < 7) ∧ 1 ≤ s.n ∧ s.n ≤ 1099511627776 := by
    simp only [isDot, isRep, Bool.and_eq_true, decide_eq_true_eq] at k3; omega
  repeat' (first
    | (refine And.intro (fun r => ?_) (fun r => absurd r (by rw [hk]; decide)))
    | (refine And.intro (fun r => absurd r (by rw [hk]; decide)) (fun r => ?_))
    | (refine VCall.mk [0] (s_ref_GoodName h hu s.name (Nat.le_trans h1 (by decide))) ⟨rfl, rfl, rfl⟩ ?_; rintro _ _ ⟨rfl, rfl⟩)
    | (refine VCall.mk [0] (s_ref_GoodName h hu s.user (Nat.le_trans h2 (by decide))) ⟨rfl, rfl, rfl⟩ ?_; rintro _ _ ⟨rfl, rfl⟩)
    | (refine VCall.mk [] (s_ref_May s.ar s.an) ⟨rfl, rfl, rfl⟩ ?_; rintro _ _ ⟨rfl, rfl⟩)
    | (refine VCall.mk [] (s_ref_May s.br s.bn) ⟨rfl, rfl, rfl⟩ ?_; rintro _ _ ⟨rfl, rfl⟩)
    | (refine And.intro (fun r => fin _ _ (by (clear fin bad; simp_all [goodT, redT, partT, wordB, pointB, numB, userK, auctK, amntK] <;> (try (intros; omega))))) (fun r => ?_))
    | (refine And.intro (fun r => ?_) (fun r => fin _ _ (by (clear fin bad; simp_all [goodT, redT, partT, wordB, pointB, numB, userK, auctK, amntK] <;> (try (intros; omega))))))
    | (refine And.intro (fun r => ?_) (fun r => ?_)))
  all_goals exact fin _ _ (by (clear fin bad; simp_all [goodT, redT, partT, wordB, pointB, numB, userK, auctK, amntK] <;> (try (intros; omega))))
theorem s_refGood (h : Nat → Option Obj) (hu : Uni h) (s : ST) (h1 : s.name.size ≤ 1000) (h2 : s.user.size ≤ 1000) :
    Ctr Tryz.prog F_rostrumref24_Good [.agg (stcells s)] [.heap h] (fun x H => x = bv (goodT s) ∧ H = [.heap h]) := by
  by_cases hk : 1 ≤ s.kind ∧ s.kind ≤ 7
  · obtain ⟨ha, hb⟩ := hk
    have : s.kind = 1 ∨ s.kind = 2 ∨ s.kind = 3 ∨ s.kind = 4 ∨ s.kind = 5 ∨ s.kind = 6 ∨ s.kind = 7 := by omega
    rcases this with k | k | k | k | k | k | k
    · exact s_refGood1 h hu s h1 h2 k
    · exact s_refGood2 h hu s h1 h2 k
    · exact s_refGood3 h hu s h1 h2 k
    · exact s_refGood4 h hu s h1 h2 k
    · exact s_refGood5 h hu s h1 h2 k
    · exact s_refGood6 h hu s h1 h2 k
    · exact s_refGood7 h hu s h1 h2 k
  · have hg : goodT s = false := by
      have : headT s = false := by
        simp only [headT]
        by_cases h1 : 1 ≤ s.kind
        · have : ¬ s.kind ≤ 7 := fun h => hk ⟨h1, h⟩
          rw [decide_eq_false this]; simp
        · rw [decide_eq_false h1]; rfl
      rw [goodT, this]; rfl
    have fin : ∀ (l : List SO), VRet 1 (bv false) (.heap h :: l) (fun x H => x = bv (goodT s) ∧ H = [.heap h]) := by
      intro l
      exact VRet.mk [0] _ [.heap h] ⟨rfl, rfl, rfl⟩ ⟨by rw [hg], rfl⟩
    refine i_rostrumref24_Good.spec follows ?_
    refine And.intro (fun k1 => ?_) (fun k1 => fin _)
    refine And.intro (fun k2 => ?_) (fun k2 => fin _)
    exact absurd (And.intro (by have := of_decide_eq_false k1; omega) (by have := of_decide_eq_false k2; omega)) hk
end Go.Proofs

namespace Go.Proofs
open Go Go.V Go.Lib
set_option maxRecDepth 100000
set_option linter.unusedVariables false

theorem RowG.nilS {α : Type} {cl : α → List Value} {k : Nat} : RowG cl k [] 0 0 ([] : List α) := ⟨Nat.le_refl _, by simp, by simp⟩
def bidR (a : Int × Int) (v : Nat → Int) (s : ST) : Bool := decide (s.kind = 2) && ((decide (s.ar = a.1) && decide (s.an = a.2)) && has v s.rep s.n)
def goneR (v : Nat → Int) (x y : ST) : Bool := decide (y.kind = 3) && ((decide (y.br = x.rep) && decide (y.bn = x.n)) && has v y.rep y.n)
def okR (L : List ST) (a : Int × Int) (v : Nat → Int) (s : ST) : Bool := bidR a v s && !L.any (goneR v s)
def bidsR (w : RH) (a : Int × Int) (v : Nat → Int) : List ST := w.L.filter (okR w.L a v)
theorem nT {b : Bool} (h : (!b) = true) : b = false := by cases b <;> simp_all
theorem nF {b : Bool} (h : (!b) = false) : b = true := by cases b <;> simp_all
structure RBX where
  xs : List Value
  o : Nat
  c : Nat
  D : List ST
  i : Nat
structure RBY where
  k : Nat
  b : Bool
theorem anyTake {α : Type} {p : α → Bool} {l : List α} {k : Nat} (h : k < l.length) : (l.take (k + 1)).any p = ((l.take k).any p || p l[k]) := by
  rw [← List.take_append_getElem h, List.any_append]; simp
theorem filterTake {α : Type} {p : α → Bool} {l : List α} {k : Nat} (h : k < l.length) : (l.take (k + 1)).filter p = (l.take k).filter p ++ (bif p l[k] then [l[k]] else []) := by
  rw [← List.take_append_getElem h, List.filter_append]
  cases hp : p l[k] <;> simp [hp]
set_option maxHeartbeats 2000000 in
theorem s_refBids (w : RH) (q : RQ) (hk : RK w q) (a : Int × Int) (v : Nat → Int) :
    Ctr Tryz.prog F_rostrumref24_House_bids [.ptr 0 0, .agg (dcells a.1 a.2), .agg (vcells v)] (hoR w q)
      (fun r H => ∃ xs o c, r = .sl 7 o (bidsR w a v).length c ∧ H = hoR w q ++ [.arr xs T_rostrumref24_Step] ∧ RowG stcl 19 xs o c (bidsR w a v)) := by
  refine i_rostrumref24_House_bids.spec follows ?_
  refine VLoop.nil T_rostrumref24_Step [7] [] ⟨rfl, rfl⟩ ?_
  have hll := hk.ll
  refine VLoop.mk RBX (fun x => [(0, .ptr 0 0), (4, .ptr 7 0), (5, .ptr 8 0), (7, .sl 9 x.o x.D.length x.c), (8, iv x.i)]) (fun x => hoR w q ++ [.cells (dcells a.1 a.2) T_api_Dot, .cells (vcells v) T_rostrumref7_Vec, .arr x.xs T_rostrumref24_Step])
    (fun x => x.i ≤ w.L.length ∧ x.D = (w.L.take x.i).filter (okR w.L a v) ∧ RowG stcl 19 x.xs x.o x.c x.D) (fun x => w.L.length - x.i) ⟨[], 0, 0, [], 0⟩ [0, 1, 2, 3, 4, 5, 6, 7, 8, 9]
    ⟨⟨Nat.zero_le _, rfl, RowG.nilS⟩, rfl, rfl, rfl⟩ ?_
  rintro ⟨xs, o, c, D, i⟩ ⟨hi, hD, hr⟩ g
  simp only at hi hD hr
  refine And.intro (fun t1 => ?_) (fun t1 => ?_)
  · have t1 : (i : Int) < (w.L.length : Nat) := of_decide_eq_true t1
    have hil : i < w.L.length := by omega
    have hwi : IntKind.i64.wrap ((i : Int) + 1) = ((i + 1 : Nat) : Int) := wrap64 (by omega)
    have hx := hk.l.cut (fun _ => rfl) hil
    have hft := filterTake (p := okR w.L a v) hil
    have hni : (0 : Int) ≤ (i : Int) ∧ (i : Int) < (w.L.length : Nat) ∧ q.l.o + w.L.length * 19 ≤ q.l.xs.length := ⟨Int.natCast_nonneg i, t1, RowG.room hk.l⟩
    refine And.intro hni (Exists.intro _ (And.intro (by rw [Int.toNat_natCast]; exact hx) ?_))
    have stay : okR w.L a v w.L[i] = false → (i + 1 ≤ w.L.length ∧ D = (w.L.take (i + 1)).filter (okR w.L a v) ∧ RowG stcl 19 xs o c D) := fun hn => ⟨hil, by rw [hft, hn, hD]; simp, hr⟩
    refine And.intro (fun k1 => ?_) (fun k1 => ?_)
    rotate_left 1
    · have k1 : decide (w.L[i].kind = 2) = false := by simpa using k1
      refine Exists.intro _ (And.intro hwi ?_)
      exact Exists.intro ⟨xs, o, c, D, i + 1⟩ (Exists.intro [0, 1, 2, 3, 4, 5, 6, 7, 8, 9] (And.intro ⟨stay (by rw [okR, bidR, k1]; rfl), by simp only; omega⟩ ⟨rfl, rfl, rfl⟩))
    have k1 : decide (w.L[i].kind = 2) = true := by simpa using k1
    refine And.intro (fun k2 => ?_) (fun k2 => ?_)
    rotate_left 1
    · have k2 : (decide (w.L[i].ar = a.1) && decide (w.L[i].an = a.2)) = false := nT k2
      refine Exists.intro _ (And.intro hwi ?_)
      exact Exists.intro ⟨xs, o, c, D, i + 1⟩ (Exists.intro [0, 1, 2, 3, 4, 5, 6, 7, 8, 9] (And.intro ⟨stay (by rw [okR, bidR, k1, k2]; rfl), by simp only; omega⟩ ⟨rfl, rfl, rfl⟩))
    have k2 : (decide (w.L[i].ar = a.1) && decide (w.L[i].an = a.2)) = true := nF k2
    refine VCall.mk [] (s_ref_Has v w.L[i].rep w.L[i].n) ⟨rfl, rfl, rfl⟩ ?_
    rintro _ _ ⟨rfl, rfl⟩
    refine And.intro (fun k3 => ?_) (fun k3 => ?_)
    · have k3 : has v w.L[i].rep w.L[i].n = false := by simpa using k3
      refine Exists.intro _ (And.intro hwi ?_)
      exact Exists.intro ⟨xs, o, c, D, i + 1⟩ (Exists.intro [0, 1, 2, 3, 4, 5, 6, 7, 8, 9] (And.intro ⟨stay (by rw [okR, bidR, k1, k2, k3]; rfl), by simp only; omega⟩ ⟨rfl, rfl, rfl⟩))
    have k3 : has v w.L[i].rep w.L[i].n = true := by simpa using k3
    have hb : bidR a v w.L[i] = true := by rw [bidR, k1, k2, k3]; rfl
    refine VLoop.mk RBY (fun x => [(0, .ptr 0 0), (4, .ptr 7 0), (5, .ptr 8 0), (7, .sl 9 o D.length c), (8, iv i), (9, .ptr 10 0), (10, bv x.b), (11, iv x.k)]) (fun x => hoR w q ++ [.cells (dcells a.1 a.2) T_api_Dot, .cells (vcells v) T_rostrumref7_Vec, .arr xs T_rostrumref24_Step, .cells (stcells w.L[i]) T_rostrumref24_Step])
      (fun x => x.k ≤ w.L.length ∧ x.b = (w.L.take x.k).any (goneR v w.L[i])) (fun x => w.L.length - x.k) ⟨0, false⟩ [0, 1, 2, 3, 4, 5, 6, 7, 8, 9, 10]
      ⟨⟨Nat.zero_le _, rfl⟩, rfl, rfl, rfl⟩ ?_
    rintro ⟨k, b⟩ ⟨hkl, hb2⟩ g2
    simp only at hkl hb2
    refine And.intro (fun t2 => ?_) (fun t2 => ?_)
    · have t2 : (k : Int) < (w.L.length : Nat) := of_decide_eq_true t2
      have hkl' : k < w.L.length := by omega
      have hwk : IntKind.i64.wrap ((k : Int) + 1) = ((k + 1 : Nat) : Int) := wrap64 (by omega)
      have hat := anyTake (p := goneR v w.L[i]) hkl'
      have hnk : (0 : Int) ≤ (k : Int) ∧ (k : Int) < (w.L.length : Nat) ∧ q.l.o + w.L.length * 19 ≤ q.l.xs.length := ⟨Int.natCast_nonneg k, t2, RowG.room hk.l⟩
      have hy := hk.l.cut (fun _ => rfl) hkl'
      have hy0 := hk.l.at (fun _ => rfl) hkl' (j := 0) (by omega)
      have hy1 := cut_sub hy 1 2 (by omega)
      have hy15 := cut_sub hy 15 2 (by omega)
      have go : ∀ b', b' = (b || goneR v w.L[i] w.L[k]) → (k + 1 ≤ w.L.length ∧ b' = (w.L.take (k + 1)).any (goneR v w.L[i])) := fun b' hb' => ⟨hkl', by rw [hat, hb', hb2]⟩
      refine And.intro (fun j0 => ?_) (fun j0 => ?_)
      rotate_left 1
      · refine Exists.intro _ (And.intro hwk ?_)
        exact Exists.intro ⟨k + 1, true⟩ (Exists.intro [0, 1, 2, 3, 4, 5, 6, 7, 8, 9, 10] (And.intro ⟨go true (by have j0 : b = true := j0; rw [j0]; rfl), by simp only; omega⟩ ⟨rfl, rfl, rfl⟩))
      have j0 : b = false := j0
      refine And.intro hnk (Exists.intro _ (And.intro (by rw [Int.toNat_natCast]; exact hy0) ?_))
      refine And.intro (fun j1 => ?_) (fun j1 => ?_)
      rotate_left 1
      · have j1 : decide (w.L[k].kind = 3) = false := j1
        refine Exists.intro _ (And.intro hwk ?_)
        exact Exists.intro ⟨k + 1, false⟩ (Exists.intro [0, 1, 2, 3, 4, 5, 6, 7, 8, 9, 10] (And.intro ⟨go false (by rw [j0, goneR, j1]; rfl), by simp only; omega⟩ ⟨rfl, rfl, rfl⟩))
      have j1 : decide (w.L[k].kind = 3) = true := j1
      refine And.intro hnk (Exists.intro _ (And.intro (by rw [Int.toNat_natCast]; exact hy15) ?_))
      refine And.intro (fun j2 => ?_) (fun j2 => ?_)
      rotate_left 1
      · have j2 : (decide (w.L[k].br = w.L[i].rep) && decide (w.L[k].bn = w.L[i].n)) = false := j2
        refine Exists.intro _ (And.intro hwk ?_)
        exact Exists.intro ⟨k + 1, false⟩ (Exists.intro [0, 1, 2, 3, 4, 5, 6, 7, 8, 9, 10] (And.intro ⟨go false (by rw [j0, goneR, j1, j2]; rfl), by simp only; omega⟩ ⟨rfl, rfl, rfl⟩))
      have j2 : (decide (w.L[k].br = w.L[i].rep) && decide (w.L[k].bn = w.L[i].n)) = true := j2
      refine And.intro hnk (Exists.intro _ (And.intro (by rw [Int.toNat_natCast]; exact hy1) ?_))
      refine VCall.mk [] (s_ref_Has v w.L[k].rep w.L[k].n) ⟨rfl, rfl, rfl⟩ ?_
      rintro _ _ ⟨rfl, rfl⟩
      refine Exists.intro _ (And.intro hwk ?_)
      exact Exists.intro ⟨k + 1, has v w.L[k].rep w.L[k].n⟩ (Exists.intro [0, 1, 2, 3, 4, 5, 6, 7, 8, 9, 10] (And.intro ⟨go _ (by rw [j0, goneR, j1, j2]; rfl), by simp only; omega⟩ ⟨rfl, rfl, rfl⟩))
    · have hkl' : k = w.L.length := by have t2 := of_decide_eq_false t2; simp only at t2; omega
      rw [hkl', List.take_length] at hb2
      refine And.intro (fun t3 => ?_) (fun t3 => ?_)
      rotate_left 1
      · have t3 : b = true := nF t3
        refine Exists.intro _ (And.intro hwi ?_)
        exact Exists.intro ⟨xs, o, c, D, i + 1⟩ (Exists.intro [0, 1, 2, 3, 4, 5, 6, 7, 8, 9] (And.intro ⟨stay (by rw [okR, ← hb2, t3]; simp), by simp only; omega⟩ ⟨rfl, rfl, rfl⟩))
      · have t3 : b = false := nT t3
        have hDl : D.length ≤ i := by rw [hD]; exact Nat.le_trans (List.length_filter_le _ _) (by rw [List.length_take]; omega)
        have hok : okR w.L a v w.L[i] = true := by rw [okR, hb, ← hb2, t3]; rfl
        refine And.intro ⟨⟨hr.1, hr.2.1, rfl⟩, ⟨rfl, rfl⟩, show (D.length + 1) * 168 ≤ 1099511627776 by omega⟩ ?_
        intro xs' o' c' hz
        refine Exists.intro _ (And.intro hwi ?_)
        refine Exists.intro ⟨xs', o', c', D ++ [w.L[i]], i + 1⟩ (Exists.intro [0, 1, 2, 3, 4, 5, 6, 7, 8, 12] (And.intro ⟨⟨hil, by simp only; rw [hft, hok, hD]; rfl, RowG.snoc hr rfl hz.1 hz.2.1 hz.2.2⟩, by simp only; omega⟩ ⟨?_, rfl, rfl⟩))
        simp only [List.length_append, List.length_cons, List.length_nil]; rfl
  · have hil : i = w.L.length := by have t1 := of_decide_eq_false t1; simp only at t1; omega
    rw [hil, List.take_length] at hD
    have hD : D = bidsR w a v := hD
    subst hD
    exact VRet.mk [0, 1, 2, 3, 4, 5, 6, 9] (.sl 7 o (bidsR w a v).length c) (hoR w q ++ [.arr xs T_rostrumref24_Step]) ⟨rfl, rfl, rfl⟩ ⟨xs, o, c, rfl, rfl, hr⟩
/-! ### The greatest amount, the first of them -/
def bestR (l : List ST) (i : Nat) (b : Int) : Prop := (b = -1 ∧ i = 0) ∨ ∃ k : Nat, b = (k : Int) ∧ k < i ∧ ∃ hk : k < l.length, (∀ j (hj : j < l.length), j < i → l[j].amount ≤ l[k].amount) ∧ (∀ j (hj : j < l.length), j < k → l[j].amount < l[k].amount)
structure RBZ where
  i : Nat
  b : Int
theorem s_refBest (l : List ST) (xs : List Value) (o c : Nat) (hr : RowG stcl 19 xs o c l) (hl : l.length ≤ 1000) :
    Ctr Tryz.prog F_rostrumref24_best [.sl 0 o l.length c] [.arr xs T_rostrumref24_Step] (fun r H => ∃ b, r = iv b ∧ bestR l l.length b ∧ H = [.arr xs T_rostrumref24_Step]) := by
  refine i_rostrumref24_best.spec follows ?_
  refine VLoop.mk RBZ (fun x => [(0, .sl 0 o l.length c), (3, iv x.b), (4, iv x.i)]) (fun x => [.arr xs T_rostrumref24_Step])
    (fun x => x.i ≤ l.length ∧ bestR l x.i x.b) (fun x => l.length - x.i) ⟨0, -1⟩ [0] ⟨⟨Nat.zero_le _, .inl ⟨rfl, rfl⟩⟩, rfl, rfl, rfl⟩ ?_
  rintro ⟨i, b⟩ ⟨hi, hb⟩ g
  simp only at hi hb
  refine And.intro (fun t1 => ?_) (fun t1 => ?_)
  · have t1 : (i : Int) < (l.length : Nat) := of_decide_eq_true t1
    have hil : i < l.length := by omega
    have hwi : IntKind.i64.wrap ((i : Int) + 1) = ((i + 1 : Nat) : Int) := wrap64 (by omega)
    have ha := hr.at (fun _ => rfl) hil (j := 17) (by omega)
    have hni : (0 : Int) ≤ (i : Int) ∧ (i : Int) < (l.length : Nat) ∧ o + l.length * 19 ≤ xs.length := ⟨Int.natCast_nonneg i, t1, RowG.room hr⟩
    refine And.intro (fun k1 => ?_) (fun k1 => ?_)
    · have k1 : ¬ b < 0 := of_decide_eq_false k1
      rcases hb with ⟨h1, _⟩ | ⟨k, rfl, hki, hkl, h1, h2⟩
      · exact absurd h1 (by omega)
      have hak := hr.at (fun _ => rfl) hkl (j := 17) (by omega)
      refine And.intro hni (Exists.intro _ (And.intro (by rw [Int.toNat_natCast]; exact ha) ?_))
      refine And.intro ⟨Int.natCast_nonneg k, show (k : Int) < (l.length : Nat) by omega, RowG.room hr⟩ (Exists.intro _ (And.intro (by rw [Int.toNat_natCast]; exact hak) ?_))
      refine And.intro (fun k2 => ?_) (fun k2 => ?_)
      · have k2 : l[k].amount < l[i].amount := of_decide_eq_true k2
        refine Exists.intro _ (And.intro hwi ?_)
        refine Exists.intro ⟨i + 1, (i : Int)⟩ (Exists.intro [0] (And.intro ⟨⟨hil, .inr ⟨i, rfl, Nat.lt_succ_self i, hil, fun j hj hji => ?_, fun j hj hji => ?_⟩⟩, by simp only; omega⟩ ⟨rfl, rfl, rfl⟩))
        · by_cases e : j = i
          · subst e; exact Int.le_refl _
          · exact Int.le_of_lt (Int.lt_of_le_of_lt (h1 j hj (by simp only at hji; omega)) k2)
        · exact Int.lt_of_le_of_lt (h1 j hj hji) k2
      · have k2 : ¬ l[k].amount < l[i].amount := of_decide_eq_false k2
        refine Exists.intro _ (And.intro hwi ?_)
        refine Exists.intro ⟨i + 1, (k : Int)⟩ (Exists.intro [0] (And.intro ⟨⟨hil, .inr ⟨k, rfl, Nat.lt_succ_of_lt hki, hkl, fun j hj hji => ?_, h2⟩⟩, by simp only; omega⟩ ⟨rfl, rfl, rfl⟩))
        by_cases e : j = i
        · subst e; omega
        · exact h1 j hj (by simp only at hji; omega)
    · have k1 : b < 0 := of_decide_eq_true k1
      rcases hb with ⟨h1, h0⟩ | ⟨k, h1, _⟩
      · subst h0
        refine Exists.intro _ (And.intro hwi ?_)
        refine Exists.intro ⟨0 + 1, ((0 : Nat) : Int)⟩ (Exists.intro [0] (And.intro ⟨⟨hil, .inr ⟨0, rfl, Nat.lt_succ_self 0, hil, fun j hj hji => ?_, fun j hj hji => absurd hji (Nat.not_lt_zero _)⟩⟩, by simp only; omega⟩ ⟨rfl, rfl, rfl⟩))
        have : j = 0 := by simp only at hji; omega
        subst this; exact Int.le_refl _
      · exact absurd k1 (by omega)
  · have hil : i = l.length := by have t1 := of_decide_eq_false t1; simp only at t1; omega
    subst hil
    exact VRet.mk [0] (iv b) [.arr xs T_rostrumref24_Step] ⟨rfl, rfl, rfl⟩ ⟨b, rfl, hb, rfl⟩
end Go.Proofs

namespace Go.Proofs
open Go Go.V Go.Lib
set_option maxRecDepth 100000
set_option linter.unusedVariables false

theorem fm_len {α : Type} {cl : α → List Value} {k : Nat} (hk : ∀ x, (cl x).length = k) : ∀ l : List α, (l.flatMap cl).length = l.length * k
  | [] => by simp
  | x :: l => by rw [List.flatMap_cons, List.length_append, hk, fm_len hk l, List.length_cons, Nat.add_mul]; omega
theorem fm_ok {α : Type} {cl : α → List Value} (hc : ∀ x l, cellsOK l = true → cellsOK (cl x ++ l) = true) : ∀ l : List α, cellsOK (l.flatMap cl) = true
  | [] => rfl
  | x :: l => by rw [List.flatMap_cons]; exact hc x _ (fm_ok hc l)
theorem fm_drop {α : Type} {cl : α → List Value} {k : Nat} (hk : ∀ x, (cl x).length = k) : ∀ (l : List α) (i : Nat), (l.flatMap cl).drop (i * k) = (l.drop i).flatMap cl
  | [], i => by simp
  | x :: l, 0 => by simp
  | x :: l, i + 1 => by
    rw [List.flatMap_cons, show (i + 1) * k = (cl x).length + i * k by rw [hk, Nat.add_mul]; omega, ← List.drop_drop, List.drop_left, fm_drop hk l i]; rfl
theorem fm_take {α : Type} {cl : α → List Value} {k : Nat} (hk : ∀ x, (cl x).length = k) : ∀ (l : List α) (i : Nat), (l.flatMap cl).take (i * k) = (l.take i).flatMap cl
  | [], i => by simp
  | x :: l, 0 => by simp
  | x :: l, i + 1 => by
    rw [List.flatMap_cons, show (i + 1) * k = (cl x).length + i * k by rw [hk, Nat.add_mul]; omega, List.take_length_add_append, fm_take hk l i]; rfl
theorem RowG.pre {α : Type} {cl : α → List Value} {k : Nat} (hk : ∀ x, (cl x).length = k) {xs : List Value} {o c : Nat} {l : List α} (h : RowG cl k xs o c l) {i : Nat} (hi : i ≤ l.length) : (xs.drop o).take (i * k) = (l.take i).flatMap cl := by
  rw [← fm_take hk, ← h.2.2, List.take_take]; congr 1; exact (Nat.min_eq_left (Nat.mul_le_mul_right k hi)).symm
theorem RowG.post {α : Type} {cl : α → List Value} {k : Nat} (hk : ∀ x, (cl x).length = k) {xs : List Value} {o c : Nat} {l : List α} (h : RowG cl k xs o c l) {i o2 : Nat} (hi : i ≤ l.length) (ho : o2 = if c = (i : Int).toNat then o else o + (i : Int).toNat * k) : (xs.drop o2).take ((l.length - i) * k) = (l.drop i).flatMap cl := by
  rw [show ((i : Int).toNat) = i from rfl] at ho
  by_cases hc : c = i
  · have := h.1
    rw [show l.length - i = 0 by omega, show l.drop i = [] from List.drop_eq_nil_of_le (by omega)]; simp
  · rw [if_neg hc] at ho
    rw [ho, ← fm_drop hk, ← h.2.2, List.drop_take, List.drop_drop, Nat.sub_mul]
theorem RowG.app {α : Type} {cl : α → List Value} {k : Nat} {xs zs ys : List Value} {o c o' cp n m : Nat} {d e : List α} (h : RowG cl k xs o c d) (hn : n = d.length) (hm : m = e.length) (hy : ys = e.flatMap cl) (h1 : n + m ≤ cp) (h2 : o' + cp * k ≤ zs.length) (h3 : (zs.drop o').take ((n + m) * k) = (xs.drop o).take (n * k) ++ ys) :
    RowG cl k zs o' cp (d ++ e) := by
  subst hn hm hy
  refine ⟨by rw [List.length_append]; exact h1, h2, ?_⟩
  rw [List.length_append, List.flatMap_append, h3, h.2.2]
theorem stcl_len (x : ST) : (stcl x).length = 19 := rfl
theorem stcl_ok (x : ST) (l : List Value) (h : cellsOK l = true) : cellsOK (stcl x ++ l) = true := by simpa [cellsOK] using h
def refE (w : RH) (s : ST) : Int :=
  bif !goodT s || decide (4 < s.kind) then 1 else bif has w.v s.rep s.n then 5 else
  bif !decide (s.n = w.v s.rep.toNat + 1) || (!leB s.seen w.v || decide ((w.R.length : Int) < s.reds)) then 8 else 0
def ltS (s t : ST) : Bool := ltB s.rep s.n t.rep t.n
structure InsAt (L : List ST) (s : ST) (k : Nat) : Prop where
  le : k ≤ L.length
  lo : ∀ j (hj : j < L.length), j < k → ltS L[j] s = true
  hi : ∀ (hk : k < L.length), ltS L[k] s = false
def insL (L : List ST) (s : ST) (k : Nat) : List ST := L.take k ++ [s] ++ L.drop k
def wB (w : RH) (s : ST) (k : Nat) : RH := { w with v := upv w.v s.rep.toNat s.n, L := insL w.L s k }
abbrev hoRL (w : RH) (q : RQ) (o c : Nat) : List SO := [.cells (vcells w.v ++ [.sl 8 o w.L.length c, .sl 2 q.r.o w.R.length q.r.c, .sl 3 q.u.o w.us.length q.u.c, .sl 4 q.p.o w.sp.length q.p.c, .sl 5 q.s.o w.su.length q.s.c, .sl 6 q.e.o w.cl.length q.e.c]) T_rostrumref24_House,
  .arr q.l.xs T_rostrumref24_Step, .arr q.r.xs T_rostrumref24_Step, .arr q.u.xs T_string, .arr q.p.xs T_string, .arr q.s.xs T_int64, .arr q.e.xs T_rostrumref24_outcome]
theorem insL_len {L : List ST} {s : ST} {k : Nat} (h : k ≤ L.length) : (insL L s k).length = 0 + k + 1 + (L.length - k) := by
  simp [insL]; omega
def RBluePost (h : Nat → Option Obj) (w : RH) (q : RQ) (s : ST) (r : SV) (H : List SO) : Prop :=
  (refE w s ≠ 0 ∧ r = iv (refE w s) ∧ H = hoR w q ++ [.heap h]) ∨
  (refE w s = 0 ∧ r = iv 0 ∧ ∃ k xs o c, InsAt w.L s k ∧ RowG stcl 19 xs o c (insL w.L s k) ∧ H = hoRL (wB w s k) q o c ++ [.heap h, .arr xs T_rostrumref24_Step])
set_option maxHeartbeats 4000000 in
theorem s_refBlue (h : Nat → Option Obj) (hu : Uni h) (w : RH) (q : RQ) (hk : RK w q) (hv : ∀ i, i < 7 → 0 ≤ w.v i ∧ w.v i ≤ 1099511627776) (s : ST) (h1 : s.name.size ≤ 1000) (h2 : s.user.size ≤ 1000) :
    Ctr Tryz.prog F_rostrumref24_House_Blue [.ptr 0 0, .agg (stcells s)] (hoR w q ++ [.heap h]) (RBluePost h w q s) := by
  have fin : ∀ (e : Int) (l : List SO), e ≠ 0 → refE w s = e → VRet 8 (iv e) (hoR w q ++ .heap h :: l) (RBluePost h w q s) := by
    intro e l he hb
    exact VRet.mk [0, 1, 2, 3, 4, 5, 6, 7] (iv e) (hoR w q ++ [.heap h]) ⟨rfl, rfl, rfl⟩ (.inl ⟨by rw [hb]; exact he, by rw [hb], rfl⟩)
  have fin2 : ∀ (k n : Nat) (zs : List Value) (o c : Nat) (Z A B C D : SO) (l : List SO), refE w s = 0 → InsAt w.L s k → n = 0 + k + 1 + (w.L.length - k) → RowG stcl 19 zs o c (insL w.L s k) →
      VRet 8 (iv 0) ([.cells (vcells (upv w.v s.rep.toNat s.n) ++ [.sl 13 o n c, .sl 2 q.r.o w.R.length q.r.c, .sl 3 q.u.o w.us.length q.u.c, .sl 4 q.p.o w.sp.length q.p.c, .sl 5 q.s.o w.su.length q.s.c, .sl 6 q.e.o w.cl.length q.e.c]) T_rostrumref24_House,
        .arr q.l.xs T_rostrumref24_Step, .arr q.r.xs T_rostrumref24_Step, .arr q.u.xs T_string, .arr q.p.xs T_string, .arr q.s.xs T_int64, .arr q.e.xs T_rostrumref24_outcome, .heap h, Z, A, B, C, D, .arr zs T_rostrumref24_Step] ++ l) (RBluePost h w q s) := by
    intro k n zs o c Z A B C D l he hI hn hr
    rw [← insL_len (s := s) hI.le] at hn
    subst hn
    exact VRet.mk [0, 1, 2, 3, 4, 5, 6, 7, 13] (iv 0) (hoRL (wB w s k) q o c ++ [.heap h, .arr zs T_rostrumref24_Step]) ⟨rfl, rfl, rfl⟩ (.inr ⟨he, rfl, k, zs, o, c, hI, hr, rfl⟩)
  refine i_rostrumref24_House_Blue.spec follows ?_
  refine VCall.mk [7] (s_refGood h hu s h1 h2) ⟨rfl, rfl, rfl⟩ ?_
  rintro _ _ ⟨rfl, rfl⟩
  refine And.intro (fun k1 => ?_) (fun k1 => fin 1 _ (by decide) (by have k1 := nT k1; rw [refE, k1]; rfl))
  have k1 := nF k1
  refine And.intro (fun k2 => fin 1 _ (by decide) (by rw [refE, show decide (4 < s.kind) = true from k2]; simp)) (fun k2 => ?_)
  have k2 : decide (4 < s.kind) = false := k2
  refine VCall.mk [] (s_ref_Has w.v s.rep s.n) ⟨rfl, rfl, rfl⟩ ?_
  rintro _ _ ⟨rfl, rfl⟩
  refine And.intro (fun k3 => fin 5 _ (by decide) (by rw [refE, k1, k2, show has w.v s.rep s.n = true from k3]; rfl)) (fun k3 => ?_)
  have k3 : has w.v s.rep s.n = false := k3
  have hdot := good_dot k1
  have hvr := hv s.rep.toNat (by omega)
  have hw : IntKind.i64.wrap (w.v s.rep.toNat + 1) = w.v s.rep.toNat + 1 := wrap64 (by omega)
  refine And.intro hdot.1 (Exists.intro _ (And.intro (vcells_get' w.v hdot.1 _) ?_))
  refine Exists.intro _ (And.intro hw ?_)
  refine And.intro (fun k4 => ?_) (fun k4 => fin 8 _ (by decide) (by have k4 : decide (s.n = w.v s.rep.toNat + 1) = false := nT k4
                                                                     rw [refE, k1, k2, k3, k4]; rfl))
  have k4 : decide (s.n = w.v s.rep.toNat + 1) = true := nF k4
  refine VCall.mk [] (s_ref_Le s.seen w.v) ⟨rfl, rfl, rfl⟩ ?_
  rintro _ _ ⟨rfl, rfl⟩
  refine And.intro (fun k5 => ?_) (fun k5 => fin 8 _ (by decide) (by have k5 : leB s.seen w.v = false := nT k5
                                                                     rw [refE, k1, k2, k3, k4, k5]; rfl))
  have k5 : leB s.seen w.v = true := nF k5
  refine And.intro (fun k6 => fin 8 _ (by decide) (by rw [refE, k1, k2, k3, k4, k5, show decide ((w.R.length : Int) < s.reds) = true from k6]; rfl)) (fun k6 => ?_)
  have he : refE w s = 0 := by rw [refE, k1, k2, k3, k4, k5, show decide ((w.R.length : Int) < s.reds) = false from k6]; rfl
  refine And.intro hdot.1 (Exists.intro _ (And.intro (vcells_put w.v s.n hdot.1 _) ?_))
  have hll := hk.ll
  refine VLoop.mk Nat (fun i => [(0, .ptr 0 0), (3, .ptr 8 0), (5, iv i)]) (fun _ => hoR { w with v := upv w.v s.rep.toNat s.n } q ++ [.heap h, .cells (stcells s) T_rostrumref24_Step])
    (fun i => i ≤ w.L.length ∧ ∀ j (hj : j < w.L.length), j < i → ltS w.L[j] s = true) (fun i => w.L.length - i) 0 [0, 1, 2, 3, 4, 5, 6, 7, 8] ⟨⟨Nat.zero_le _, fun j _ hj => absurd hj (Nat.not_lt_zero j)⟩, rfl, rfl, rfl⟩ ?_
  rintro i ⟨hi, hlo⟩ g
  have last : (∀ (hk : i < w.L.length), ltS w.L[i] s = false) → InsAt w.L s i := fun h => ⟨hi, hlo, h⟩
  refine And.intro (fun t1 => ?_) (fun t1 => ?_)
  · have t1 : (i : Int) < (w.L.length : Nat) := of_decide_eq_true t1
    have hil : i < w.L.length := by omega
    have hwi : IntKind.i64.wrap ((i : Int) + 1) = ((i + 1 : Nat) : Int) := wrap64 (by omega)
    have hx1 := cut_sub (hk.l.cut (fun _ => rfl) hil) 1 2 (by omega)
    have hni : (0 : Int) ≤ (i : Int) ∧ (i : Int) < (w.L.length : Nat) ∧ q.l.o + w.L.length * 19 ≤ q.l.xs.length := ⟨Int.natCast_nonneg i, t1, RowG.room hk.l⟩
    refine And.intro hni (Exists.intro _ (And.intro (by rw [Int.toNat_natCast]; exact hx1) ?_))
    refine VCall.mk [] (s_ref_Less w.L[i].rep w.L[i].n s.rep s.n) ⟨rfl, rfl, rfl⟩ ?_
    rintro _ _ ⟨rfl, rfl⟩
    refine And.intro (fun t2 => ?_) (fun t2 => ?_)
    · refine Exists.intro _ (And.intro hwi ?_)
      refine Exists.intro (i + 1) (Exists.intro [0, 1, 2, 3, 4, 5, 6, 7, 8] (And.intro ⟨⟨hil, fun j hj hji => ?_⟩, by omega⟩ ⟨rfl, rfl, rfl⟩))
      by_cases e : j = i
      · subst e; exact t2
      · exact hlo j hj (by omega)
    · have hI := last (fun _ => t2)
      have hP := RowG.pre stcl_len hk.l hi
      have dP : (List.take (i * 19) (List.drop q.l.o q.l.xs)).length = i * 19 ∧ cellsOK (List.take (i * 19) (List.drop q.l.o q.l.xs)) = true := by
        rw [hP]; exact ⟨by rw [fm_len stcl_len, List.length_take]; congr 1; omega, fm_ok stcl_ok _⟩
      refine And.intro ⟨Int.natCast_nonneg i, by have := hk.l.1; omega⟩ (And.intro ⟨Int.natCast_nonneg i, by simp only; omega⟩ ?_)
      refine Exists.elim (⟨_, rfl⟩ : ∃ o', o' = if q.l.c = (i : Int).toNat then q.l.o else q.l.o + (i : Int).toNat * 19) fun o2 ho2 => ?_
      refine Exists.intro o2 (And.intro ho2 ?_)
      have hQ := RowG.post stcl_len hk.l hi ho2
      have dQ : (List.take ((w.L.length - i) * 19) (List.drop o2 q.l.xs)).length = (w.L.length - i) * 19 ∧ cellsOK (List.take ((w.L.length - i) * 19) (List.drop o2 q.l.xs)) = true := by
        rw [hQ]; exact ⟨by rw [fm_len stcl_len, List.length_drop], fm_ok stcl_ok _⟩
      have hlT : (w.L.take i).length = i := by rw [List.length_take]; omega
      have hlD : (w.L.drop i).length = w.L.length - i := by rw [List.length_drop]
      have hb1 : (0 + i) * 168 ≤ 1099511627776 := by omega
      have hb2 : (0 + i + 1) * 168 ≤ 1099511627776 := by omega
      have hb3 : (0 + i + 1 + (w.L.length - i)) * 168 ≤ 1099511627776 := by omega
      have nil0 : RowG stcl 19 [] 0 0 [] := RowG.nilS
      refine And.intro ?a ?b
      case a =>
        refine And.intro rfl (And.intro rfl (And.intro rfl (And.intro rfl (And.intro rfl ?_))))
        refine And.intro ?c ?d
        case c =>
          refine And.intro ⟨⟨Nat.zero_le _, by simp, rfl⟩, dP, hb1⟩ ?_
          intro zs1 o1 c1 hz1
          have hr1 := RowG.app nil0 rfl hlT.symm hP hz1.1 hz1.2.1 hz1.2.2
          refine And.intro rfl (And.intro rfl (And.intro rfl ?_))
          refine And.intro rfl (And.intro rfl ?_)
          refine And.intro ⟨⟨hz1.1, hz1.2.1, rfl⟩, ⟨rfl, rfl⟩, hb2⟩ ?_
          intro zs2 o2 c2 hz2
          have hr2 := RowG.snoc (x := s) hr1 (by simp [hlT]) hz2.1 hz2.2.1 hz2.2.2
          refine And.intro rfl (And.intro rfl ?_)
          refine And.intro ⟨⟨hz2.1, hz2.2.1, rfl⟩, dQ, hb3⟩ ?_
          intro zs3 o3 c3 hz3
          have hr3 := RowG.app hr2 (by simp [hlT]) hlD.symm hQ hz3.1 hz3.2.1 hz3.2.2
          exact fin2 i _ zs3 o3 c3 _ _ _ _ _ _ he hI rfl hr3
        case d =>
          refine And.intro rfl (And.intro rfl (And.intro rfl (And.intro rfl ?_)))
          refine And.intro ⟨⟨Nat.zero_le _, by simp, rfl⟩, dP, hb1⟩ ?_
          intro zs1 o1 c1 hz1
          have hr1 := RowG.app nil0 rfl hlT.symm hP hz1.1 hz1.2.1 hz1.2.2
          refine And.intro rfl (And.intro rfl ?_)
          refine And.intro ⟨⟨hz1.1, hz1.2.1, rfl⟩, ⟨rfl, rfl⟩, hb2⟩ ?_
          intro zs2 o2 c2 hz2
          have hr2 := RowG.snoc (x := s) hr1 (by simp [hlT]) hz2.1 hz2.2.1 hz2.2.2
          refine And.intro rfl (And.intro rfl ?_)
          refine And.intro ⟨⟨hz2.1, hz2.2.1, rfl⟩, dQ, hb3⟩ ?_
          intro zs3 o3 c3 hz3
          have hr3 := RowG.app hr2 (by simp [hlT]) hlD.symm hQ hz3.1 hz3.2.1 hz3.2.2
          exact fin2 i _ zs3 o3 c3 _ _ _ _ _ _ he hI rfl hr3
      case b =>
        refine And.intro rfl (And.intro rfl (And.intro rfl (And.intro rfl ?_)))
        refine And.intro rfl (And.intro rfl (And.intro rfl (And.intro rfl ?_)))
        refine And.intro ⟨⟨Nat.zero_le _, by simp, rfl⟩, dP, hb1⟩ ?_
        intro zs1 o1 c1 hz1
        have hr1 := RowG.app nil0 rfl hlT.symm hP hz1.1 hz1.2.1 hz1.2.2
        refine And.intro rfl (And.intro rfl ?_)
        refine And.intro ⟨⟨hz1.1, hz1.2.1, rfl⟩, ⟨rfl, rfl⟩, hb2⟩ ?_
        intro zs2 o2 c2 hz2
        have hr2 := RowG.snoc (x := s) hr1 (by simp [hlT]) hz2.1 hz2.2.1 hz2.2.2
        refine And.intro rfl (And.intro rfl ?_)
        refine And.intro ⟨⟨hz2.1, hz2.2.1, rfl⟩, dQ, hb3⟩ ?_
        intro zs3 o3 c3 hz3
        have hr3 := RowG.app hr2 (by simp [hlT]) hlD.symm hQ hz3.1 hz3.2.1 hz3.2.2
        exact fin2 i _ zs3 o3 c3 _ _ _ _ _ _ he hI rfl hr3
  · have hil : i = w.L.length := by have t1 := of_decide_eq_false t1; simp only at t1; omega
    have hI := last (fun h => absurd h (by omega))
    have hP := RowG.pre stcl_len hk.l hi
    have dP : (List.take (i * 19) (List.drop q.l.o q.l.xs)).length = i * 19 ∧ cellsOK (List.take (i * 19) (List.drop q.l.o q.l.xs)) = true := by
      rw [hP]; exact ⟨by rw [fm_len stcl_len, List.length_take]; congr 1; omega, fm_ok stcl_ok _⟩
    refine And.intro ⟨Int.natCast_nonneg i, by have := hk.l.1; omega⟩ (And.intro ⟨Int.natCast_nonneg i, by simp only; omega⟩ ?_)
    refine Exists.elim (⟨_, rfl⟩ : ∃ o', o' = if q.l.c = (i : Int).toNat then q.l.o else q.l.o + (i : Int).toNat * 19) fun o2 ho2 => ?_
    refine Exists.intro o2 (And.intro ho2 ?_)
    have hQ := RowG.post stcl_len hk.l hi ho2
    have dQ : (List.take ((w.L.length - i) * 19) (List.drop o2 q.l.xs)).length = (w.L.length - i) * 19 ∧ cellsOK (List.take ((w.L.length - i) * 19) (List.drop o2 q.l.xs)) = true := by
      rw [hQ]; exact ⟨by rw [fm_len stcl_len, List.length_drop], fm_ok stcl_ok _⟩
    have hlT : (w.L.take i).length = i := by rw [List.length_take]; omega
    have hlD : (w.L.drop i).length = w.L.length - i := by rw [List.length_drop]
    have hb1 : (0 + i) * 168 ≤ 1099511627776 := by omega
    have hb2 : (0 + i + 1) * 168 ≤ 1099511627776 := by omega
    have hb3 : (0 + i + 1 + (w.L.length - i)) * 168 ≤ 1099511627776 := by omega
    have nil0 : RowG stcl 19 [] 0 0 [] := RowG.nilS
    refine And.intro ?a ?b
    case a =>
      refine And.intro rfl (And.intro rfl (And.intro rfl (And.intro rfl (And.intro rfl ?_))))
      refine And.intro ?c ?d
      case c =>
        refine And.intro ⟨⟨Nat.zero_le _, by simp, rfl⟩, dP, hb1⟩ ?_
        intro zs1 o1 c1 hz1
        have hr1 := RowG.app nil0 rfl hlT.symm hP hz1.1 hz1.2.1 hz1.2.2
        refine And.intro rfl (And.intro rfl (And.intro rfl ?_))
        refine And.intro rfl (And.intro rfl ?_)
        refine And.intro ⟨⟨hz1.1, hz1.2.1, rfl⟩, ⟨rfl, rfl⟩, hb2⟩ ?_
        intro zs2 o2 c2 hz2
        have hr2 := RowG.snoc (x := s) hr1 (by simp [hlT]) hz2.1 hz2.2.1 hz2.2.2
        refine And.intro rfl (And.intro rfl ?_)
        refine And.intro ⟨⟨hz2.1, hz2.2.1, rfl⟩, dQ, hb3⟩ ?_
        intro zs3 o3 c3 hz3
        have hr3 := RowG.app hr2 (by simp [hlT]) hlD.symm hQ hz3.1 hz3.2.1 hz3.2.2
        exact fin2 i _ zs3 o3 c3 _ _ _ _ _ _ he hI rfl hr3
      case d =>
        refine And.intro rfl (And.intro rfl (And.intro rfl (And.intro rfl ?_)))
        refine And.intro ⟨⟨Nat.zero_le _, by simp, rfl⟩, dP, hb1⟩ ?_
        intro zs1 o1 c1 hz1
        have hr1 := RowG.app nil0 rfl hlT.symm hP hz1.1 hz1.2.1 hz1.2.2
        refine And.intro rfl (And.intro rfl ?_)
        refine And.intro ⟨⟨hz1.1, hz1.2.1, rfl⟩, ⟨rfl, rfl⟩, hb2⟩ ?_
        intro zs2 o2 c2 hz2
        have hr2 := RowG.snoc (x := s) hr1 (by simp [hlT]) hz2.1 hz2.2.1 hz2.2.2
        refine And.intro rfl (And.intro rfl ?_)
        refine And.intro ⟨⟨hz2.1, hz2.2.1, rfl⟩, dQ, hb3⟩ ?_
        intro zs3 o3 c3 hz3
        have hr3 := RowG.app hr2 (by simp [hlT]) hlD.symm hQ hz3.1 hz3.2.1 hz3.2.2
        exact fin2 i _ zs3 o3 c3 _ _ _ _ _ _ he hI rfl hr3
    case b =>
      refine And.intro rfl (And.intro rfl (And.intro rfl (And.intro rfl ?_)))
      refine And.intro rfl (And.intro rfl (And.intro rfl (And.intro rfl ?_)))
      refine And.intro ⟨⟨Nat.zero_le _, by simp, rfl⟩, dP, hb1⟩ ?_
      intro zs1 o1 c1 hz1
      have hr1 := RowG.app nil0 rfl hlT.symm hP hz1.1 hz1.2.1 hz1.2.2
      refine And.intro rfl (And.intro rfl ?_)
      refine And.intro ⟨⟨hz1.1, hz1.2.1, rfl⟩, ⟨rfl, rfl⟩, hb2⟩ ?_
      intro zs2 o2 c2 hz2
      have hr2 := RowG.snoc (x := s) hr1 (by simp [hlT]) hz2.1 hz2.2.1 hz2.2.2
      refine And.intro rfl (And.intro rfl ?_)
      refine And.intro ⟨⟨hz2.1, hz2.2.1, rfl⟩, dQ, hb3⟩ ?_
      intro zs3 o3 c3 hz3
      have hr3 := RowG.app hr2 (by simp [hlT]) hlD.symm hQ hz3.1 hz3.2.1 hz3.2.2
      exact fin2 i _ zs3 o3 c3 _ _ _ _ _ _ he hI rfl hr3
end Go.Proofs

namespace Go.Proofs
open Go Go.V Go.Lib
set_option maxRecDepth 100000
set_option linter.unusedVariables false

/-! ### The document's red steps -/
theorem bcl_len (x : ByteArray) : (bcl x).length = 1 := rfl
theorem bcl_ok (x : ByteArray) (l : List Value) (h : cellsOK l = true) : cellsOK (bcl x ++ l) = true := by simpa [cellsOK, bcl] using h
theorem ncl_len (x : Int) : (ncl x).length = 1 := rfl
theorem ncl_ok (x : Int) (l : List Value) (h : cellsOK l = true) : cellsOK (ncl x ++ l) = true := by simpa [cellsOK, ncl] using h
theorem ecl_len (x : (Int × Int) × OC) : (ecl x).length = 6 := rfl
theorem ecl_ok (x : (Int × Int) × OC) (l : List Value) (h : cellsOK l = true) : cellsOK (ecl x ++ l) = true := by simpa [cellsOK, ecl] using h
theorem rowHead {α : Type} {cl : α → List Value} {k : Nat} (hk : ∀ x, (cl x).length = k) (hc : ∀ x l, cellsOK l = true → cellsOK (cl x ++ l) = true) {xs : List Value} {o c : Nat} {l : List α} (h : RowG cl k xs o c l) {i : Nat} (hi : i ≤ l.length) :
    ((xs.drop o).take (i * k)).length = i * k ∧ cellsOK ((xs.drop o).take (i * k)) = true := by
  rw [RowG.pre hk h hi]; exact ⟨by rw [fm_len hk, List.length_take]; congr 1; omega, fm_ok hc _⟩
theorem rowTail {α : Type} {cl : α → List Value} {k : Nat} (hk : ∀ x, (cl x).length = k) (hc : ∀ x l, cellsOK l = true → cellsOK (cl x ++ l) = true) {xs : List Value} {o c : Nat} {l : List α} (h : RowG cl k xs o c l) {i o2 : Nat} (hi : i ≤ l.length) (ho : o2 = if c = (i : Int).toNat then o else o + (i : Int).toNat * k) :
    ((xs.drop o2).take ((l.length - i) * k)).length = (l.length - i) * k ∧ cellsOK ((xs.drop o2).take ((l.length - i) * k)) = true := by
  rw [RowG.post hk h hi ho]; exact ⟨by rw [fm_len hk, List.length_drop], fm_ok hc _⟩
theorem rowLeC {α : Type} {cl : α → List Value} {k : Nat} {xs : List Value} {o c : Nat} {l : List α} (h : RowG cl k xs o c l) {i : Nat} (hi : i ≤ l.length) : (i : Int) ≤ (c : Nat) := by have := h.1; omega
theorem takeLen {α : Type} {l : List α} {i : Nat} (hi : i ≤ l.length) : (l.take i).length = i := by rw [List.length_take]; omega
theorem smallA {i n : Nat} (h : i ≤ n) (hn : n ≤ 1000) : 0 + i ≤ 5000 := by omega
theorem smallB {i n : Nat} (h : i ≤ n) (hn : n ≤ 1000) : 0 + i + 1 ≤ 5000 := by omega
theorem smallC {i n : Nat} (h : i ≤ n) (hn : n ≤ 1000) : 0 + i + 1 + (n - i) ≤ 5000 := by omega
theorem small16 {n : Nat} (h : n ≤ 5000) : n * 16 ≤ 1099511627776 := by omega
def refDE (w : RH) (s : ST) : Int := bif !goodT s || decide (s.kind < 5) then 1 else bif !leB s.seen w.v || decide ((w.R.length : Int) < s.reds) then 8 else 0
def RH.did (w : RH) (s : ST) : RH := { w with R := w.R ++ [s] }
def bless (a b : ByteArray) : Bool := Op.bytesLess a.toList b.toList
structure InsU (us : List ByteArray) (f : ByteArray) (k : Nat) : Prop where
  le : k ≤ us.length
  lo : ∀ j (hj : j < us.length), j < k → bless us[j] f = true
  hi : ∀ (hk : k < us.length), bless us[k] f = false
def insU (us : List ByteArray) (f : ByteArray) (k : Nat) : List ByteArray := us.take k ++ [f] ++ us.drop k
theorem insU_len {us : List ByteArray} {f : ByteArray} {k : Nat} (h : k ≤ us.length) : (insU us f k).length = 0 + k + 1 + (us.length - k) := by
  simp [insU]; omega
def mayR (w : RH) (s : ST) : Bool := (findR w 1 (s.ar, s.an)).isSome && (!(winR w (s.ar, s.an)).isSome && has s.seen s.ar s.an)
def liveR (w : RH) (s : ST) : List ST := (bidsR w (s.ar, s.an) s.seen).filter fun t => regF w (foldB t.user)
def outAt (l : List ST) (b : Int) : OC := bif decide (0 ≤ b) then ⟨(l.getD b.toNat zeroT').rep, (l.getD b.toNat zeroT').n, (l.getD b.toNat zeroT').user, (l.getD b.toNat zeroT').amount⟩ else zeroO
abbrev hoRY (n n3 n4 n5 n6 : Nat) (w : RH) (q q0 : RQ) (i2 i3 i4 i5 i6 : Nat) : List SO := [.cells (vcells w.v ++ [.sl 1 q.l.o w.L.length q.l.c, .sl i2 q.r.o n q.r.c, .sl i3 q.u.o n3 q.u.c, .sl i4 q.p.o n4 q.p.c, .sl i5 q.s.o n5 q.s.c, .sl i6 q.e.o n6 q.e.c]) T_rostrumref24_House,
  .arr q0.l.xs T_rostrumref24_Step, .arr q0.r.xs T_rostrumref24_Step, .arr q0.u.xs T_string, .arr q0.p.xs T_string, .arr q0.s.xs T_int64, .arr q0.e.xs T_rostrumref24_outcome]
abbrev hoRX (w : RH) (q q0 : RQ) (i2 i3 i4 i5 i6 : Nat) : List SO := hoRY w.R.length w.us.length w.sp.length w.su.length w.cl.length w q q0 i2 i3 i4 i5 i6
def RH.reg (w : RH) (s : ST) (k : Nat) : RH := { w.did s with us := insU w.us (foldB s.user) k }
def RH.pay (w : RH) (s : ST) : RH := { w.did s with sp := w.sp ++ [foldB s.user], su := w.su ++ [s.amount] }
def RH.over (w : RH) (s : ST) (b : Int) : RH := { w.did s with cl := w.cl ++ [((s.ar, s.an), outAt (liveR w s) b)] }
inductive RDid (h : Nat → Option Obj) (w : RH) (q : RQ) (s : ST) : SV → List SO → Prop
  | bad : refDE w s ≠ 0 → RDid h w q s (.tup [bv false, iv (refDE w s)]) (hoR w q ++ [.heap h])
  | no (r : Rw) : refDE w s = 0 → (s.kind = 5 ∧ regF w (foldB s.user) = true ∨ s.kind = 6 ∧ s.funds - wdS (foldB s.user) w.sp w.su < s.amount ∨ s.kind = 7 ∧ mayR w s = false) →
      RK (w.did s) { q with r := r } → RDid h w q s (.tup [bv false, iv 0]) (hoRX (w.did s) { q with r := r } q 8 3 4 5 6 ++ [.heap h, .arr r.xs T_rostrumref24_Step])
  | reg (r u : Rw) (k : Nat) : refDE w s = 0 → s.kind = 5 → regF w (foldB s.user) = false → InsU w.us (foldB s.user) k → RK (w.reg s k) { q with r := r, u := u } →
      RDid h w q s (.tup [bv true, iv 0]) (hoRX (w.reg s k) { q with r := r, u := u } q 8 9 4 5 6 ++ [.heap h, .arr r.xs T_rostrumref24_Step, .arr u.xs T_string])
  | pay (r p t : Rw) : refDE w s = 0 → s.kind = 6 → ¬ s.funds - wdS (foldB s.user) w.sp w.su < s.amount → RK (w.pay s) { q with r := r, p := p, s := t } →
      RDid h w q s (.tup [bv true, iv 0]) (hoRX (w.pay s) { q with r := r, p := p, s := t } q 8 3 9 10 6 ++ [.heap h, .arr r.xs T_rostrumref24_Step, .arr p.xs T_string, .arr t.xs T_int64])
  | over (r e : Rw) (b : Int) : refDE w s = 0 → s.kind = 7 → mayR w s = true → bestR (liveR w s) (liveR w s).length b → RK (w.over s b) { q with r := r, e := e } →
      RDid h w q s (.tup [bv true, iv 0]) (hoRX (w.over s b) { q with r := r, e := e } q 8 3 4 5 9 ++ [.heap h, .arr r.xs T_rostrumref24_Step, .arr e.xs T_rostrumref24_outcome])
set_option maxHeartbeats 2000000 in
theorem s_refDo5 (h : Nat → Option Obj) (hu : Uni h) (hc : CaseH h) (w : RH) (q : RQ) (hk : RK w q) (hn : w.R.length < 1000) (hn2 : w.us.length < 1000) (s : ST) (h1 : s.name.size ≤ 1000) (h2 : s.user.size ≤ 1000) (h5 : s.kind = 5) :
    Ctr Tryz.prog F_rostrumref24_House_Do [.ptr 0 0, .agg (stcells s)] (hoR w q ++ [.heap h]) (RDid h w q s) := by
  have hkD : ∀ zs o c, RowG stcl 19 zs o c (w.R ++ [s]) → RK (w.did s) { q with r := ⟨zs, o, c⟩ } := fun zs o c hr =>
    ⟨hk.l, hr, hk.u, hk.p, hk.s, hk.e, hk.ll, by show (w.R ++ [s]).length ≤ 1000; simp; omega, hk.ul, hk.pl, hk.sl, hk.el⟩
  have hkU : ∀ zs o c, RowG stcl 19 zs o c (w.R ++ [s]) → ∀ k zs2 o2 c2, InsU w.us (foldB s.user) k → RowG bcl 1 zs2 o2 c2 (insU w.us (foldB s.user) k) → RK (w.reg s k) { q with r := ⟨zs, o, c⟩, u := ⟨zs2, o2, c2⟩ } := fun zs o c hr k zs2 o2 c2 hI hr2 =>
    ⟨hk.l, hr, hr2, hk.p, hk.s, hk.e, hk.ll, by show (w.R ++ [s]).length ≤ 1000; simp; omega, by show (insU w.us (foldB s.user) k).length ≤ 1000; rw [insU_len hI.le]; have := hI.le; omega, hk.pl, hk.sl, hk.el⟩
  have fin : ∀ (e : Int) (l : List SO), e ≠ 0 → refDE w s = e → VRet 8 (.tup [bv false, iv e]) (hoR w q ++ .heap h :: l) (RDid h w q s) := by
    intro e l he hb
    subst hb
    exact VRet.mk [0, 1, 2, 3, 4, 5, 6, 7] (.tup [bv false, iv (refDE w s)]) (hoR w q ++ [.heap h]) ⟨rfl, rfl, rfl⟩ (.bad he)
  have finNo : ∀ (n : Nat) (zs : List Value) (o c : Nat) (Z A B C : SO) (l : List SO), refDE w s = 0 → (s.kind = 5 ∧ regF w (foldB s.user) = true ∨ s.kind = 6 ∧ s.funds - wdS (foldB s.user) w.sp w.su < s.amount ∨ s.kind = 7 ∧ mayR w s = false) → n = (w.R ++ [s]).length → RowG stcl 19 zs o c (w.R ++ [s]) →
      VRet 8 (.tup [bv false, iv 0]) (hoRY n w.us.length w.sp.length w.su.length w.cl.length w { q with r := ⟨zs, o, c⟩ } q 12 3 4 5 6 ++ [.heap h, Z, A, B, C, .arr zs T_rostrumref24_Step] ++ l) (RDid h w q s) := by
    rintro _ zs o c Z A B C l he hw rfl hr
    exact VRet.mk [0, 1, 2, 3, 4, 5, 6, 7, 12] (.tup [bv false, iv 0]) (hoRX (w.did s) { q with r := ⟨zs, o, c⟩ } q 8 3 4 5 6 ++ [.heap h, .arr zs T_rostrumref24_Step]) ⟨rfl, rfl, rfl⟩ (.no ⟨zs, o, c⟩ he hw (hkD zs o c hr))
  refine i_rostrumref24_House_Do.spec follows ?_
  refine VCall.mk [7] (s_refGood h hu s h1 h2) ⟨rfl, rfl, rfl⟩ ?_
  rintro _ _ ⟨rfl, rfl⟩
  refine And.intro (fun k1 => ?_) (fun k1 => fin 1 _ (by decide) (by have k1 := nT k1; rw [refDE, k1]; rfl))
  have k1 := nF k1
  refine And.intro (fun k2 => fin 1 _ (by decide) (by rw [refDE, show decide (s.kind < 5) = true from k2]; simp)) (fun k2 => ?_)
  have k2 : decide (s.kind < 5) = false := k2
  refine VCall.mk [] (s_ref_Le s.seen w.v) ⟨rfl, rfl, rfl⟩ ?_
  rintro _ _ ⟨rfl, rfl⟩
  refine And.intro (fun k3 => ?_) (fun k3 => fin 8 _ (by decide) (by have k3 := nT k3; rw [refDE, k1, k2, k3]; rfl))
  have k3 := nF k3
  refine And.intro (fun k4 => fin 8 _ (by decide) (by rw [refDE, k1, k2, k3, show decide ((w.R.length : Int) < s.reds) = true from k4]; rfl)) (fun k4 => ?_)
  have he : refDE w s = 0 := by rw [refDE, k1, k2, k3, show decide ((w.R.length : Int) < s.reds) = false from k4]; rfl
  have hP : (q.r.xs.drop q.r.o).take (w.R.length * 19) = w.R.flatMap stcl := hk.r.2.2
  have dP : (List.take (w.R.length * 19) (List.drop q.r.o q.r.xs)).length = w.R.length * 19 ∧ cellsOK (List.take (w.R.length * 19) (List.drop q.r.o q.r.xs)) = true := by
    rw [hP]; exact ⟨fm_len stcl_len _, fm_ok stcl_ok _⟩
  have hb1 : (0 + w.R.length) * 168 ≤ 1099511627776 := by have := hk.rl; omega
  have hb2 : (0 + w.R.length + 1) * 168 ≤ 1099511627776 := by have := hk.rl; omega
  have nil0 : RowG stcl 19 [] 0 0 [] := RowG.nilS
  have hlR : (w.R ++ [s]).length = 0 + w.R.length + 1 := by simp
  refine And.intro ?a ?b
  case a =>
    refine And.intro rfl (And.intro rfl (And.intro rfl ?_))
    refine And.intro ?c ?d
    case c =>
      refine And.intro ⟨⟨Nat.zero_le _, by simp, rfl⟩, dP, hb1⟩ ?_
      intro zs1 o1 c1 hz1
      have hr1 := RowG.app nil0 rfl rfl hP hz1.1 hz1.2.1 hz1.2.2
      refine And.intro rfl ?_
      refine And.intro ⟨⟨hz1.1, hz1.2.1, rfl⟩, ⟨rfl, rfl⟩, hb2⟩ ?_
      intro zs2 o2 c2 hz2
      have hr2 := RowG.snoc (x := s) hr1 (by simp) hz2.1 hz2.2.1 hz2.2.2
      refine And.intro (fun k7 => ?_) (fun k7 => absurd (of_decide_eq_false k7) (fun k => k h5))
      have hr3 : RowG stcl 19 zs2 o2 c2 (w.R ++ [s]) := hr2
      have hE := s_Registered h hc (w.did s) { q with r := ⟨zs2, o2, c2⟩ } (hkD zs2 o2 c2 hr3) s.user (Nat.le_trans h2 (by decide))
      simp only [hoR, RH.did, hlR] at hE
      refine VCall.mk [0, 1, 12, 3, 4, 5, 6, 7] hE ⟨rfl, rfl, rfl⟩ ?_
      rintro _ _ ⟨rfl, rfl⟩
      refine And.intro (fun k8 => ?_) (fun k8 => ?_)
      · exact finNo _ zs2 o2 c2 _ _ _ _ _ he (.inl ⟨h5, k8⟩) hlR.symm hr3
      refine VCall.mk [7] (s_ref_Fold h hc s.user (Nat.le_trans h2 (by decide))) ⟨rfl, rfl, rfl⟩ ?_
      rintro _ _ ⟨rfl, rfl⟩
      have hul := hk.ul
      have finReg : ∀ (k n : Nat) (xs : List Value) (o c : Nat) (Z A B C D : SO) (l : List SO), InsU w.us (foldB s.user) k → n = 0 + k + 1 + (w.us.length - k) → RowG bcl 1 xs o c (insU w.us (foldB s.user) k) →
          VRet 8 (.tup [bv true, iv 0]) (hoRY (0 + w.R.length + 1) n w.sp.length w.su.length w.cl.length w { q with r := ⟨zs2, o2, c2⟩, u := ⟨xs, o, c⟩ } q 9 14 4 5 6 ++ [.heap h, Z, .arr zs2 T_rostrumref24_Step, A, B, C, D, .arr xs T_string] ++ l) (RDid h w q s) := by
        intro k n xs o c Z A B C D l hI hn hr
        rw [← insU_len (f := foldB s.user) hI.le] at hn
        rw [← hlR]
        subst hn
        exact VRet.mk [0, 1, 2, 3, 4, 5, 6, 7, 9, 14] (.tup [bv true, iv 0]) (hoRX (w.reg s k) { q with r := ⟨zs2, o2, c2⟩, u := ⟨xs, o, c⟩ } q 8 9 4 5 6 ++ [.heap h, .arr zs2 T_rostrumref24_Step, .arr xs T_string]) ⟨rfl, rfl, rfl⟩
          (.reg ⟨zs2, o2, c2⟩ ⟨xs, o, c⟩ k he h5 k8 hI (hkU zs2 o2 c2 hr3 k xs o c hI hr))
      refine VLoop.mk Nat (fun i => [(0, .ptr 0 0), (3, .ptr 8 0), (6, .raw (.string (foldB s.user))), (7, iv i)]) (fun _ => hoRY (0 + w.R.length + 1) w.us.length w.sp.length w.su.length w.cl.length w { q with r := ⟨zs2, o2, c2⟩ } q 9 3 4 5 6 ++ [.heap h, .cells (stcells s) T_rostrumref24_Step, .arr zs2 T_rostrumref24_Step])
        (fun i => i ≤ w.us.length ∧ ∀ j (hj : j < w.us.length), j < i → bless w.us[j] (foldB s.user) = true) (fun i => w.us.length - i) 0 [0, 1, 2, 3, 4, 5, 6, 7, 8, 12] ⟨⟨Nat.zero_le _, fun j _ hj => absurd hj (Nat.not_lt_zero j)⟩, rfl, rfl, rfl⟩ ?_
      rintro i ⟨hi, hlo⟩ g
      have last : (∀ (hk : i < w.us.length), bless w.us[i] (foldB s.user) = false) → InsU w.us (foldB s.user) i := fun h => ⟨hi, hlo, h⟩
      refine And.intro (fun t1 => ?_) (fun t1 => ?_)
      · have t1 : (i : Int) < (w.us.length : Nat) := of_decide_eq_true t1
        have hil : i < w.us.length := by omega
        have hwi : IntKind.i64.wrap ((i : Int) + 1) = ((i + 1 : Nat) : Int) := wrap64 (by omega)
        have hx := RowG.one hk.u (fun _ => rfl) hil
        refine And.intro ⟨Int.natCast_nonneg i, t1, (RowG.room hk.u)⟩ (Exists.intro _ (And.intro (by rw [Int.toNat_natCast]; exact hx) ?_))
        refine And.intro (fun t2 => ?_) (fun t2 => ?_)
        · refine Exists.intro _ (And.intro hwi ?_)
          refine Exists.intro (i + 1) (Exists.intro [0, 1, 2, 3, 4, 5, 6, 7, 8, 9] (And.intro ⟨⟨hil, fun j hj hji => ?_⟩, by omega⟩ ⟨rfl, rfl, rfl⟩))
          by_cases e : j = i
          · subst e; exact t2
          · exact hlo j hj (by omega)
        · have hI := last (fun _ => t2)
          have hU := RowG.pre bcl_len hk.u hi
          have uP := rowHead bcl_len bcl_ok hk.u hi
          refine And.intro ⟨Int.natCast_nonneg i, rowLeC hk.u hi⟩ (And.intro ⟨Int.natCast_nonneg i, Int.ofNat_le.2 hi⟩ ?_)
          refine Exists.elim (⟨_, rfl⟩ : ∃ o', o' = if q.u.c = (i : Int).toNat then q.u.o else q.u.o + (i : Int).toNat * 1) fun u2 hu2 => ?_
          refine Exists.intro u2 (And.intro hu2 ?_)
          have hQ := RowG.post bcl_len hk.u hi hu2
          have uQ := rowTail bcl_len bcl_ok hk.u hi hu2
          have hlT : (w.us.take i).length = i := takeLen hi
          have hlD : (w.us.drop i).length = w.us.length - i := List.length_drop
          have ub1 := small16 (n := 0 + i) (smallA hi hul)
          have ub2 := small16 (n := 0 + i + 1) (smallB hi hul)
          have ub3 := small16 (n := 0 + i + 1 + (w.us.length - i)) (smallC hi hul)
          have unil : RowG bcl 1 [] 0 0 [] := RowG.nilS
          refine And.intro ?e ?f
          case e =>
            refine And.intro rfl (And.intro rfl (And.intro rfl (And.intro rfl ?_)))
            refine And.intro ?e1 ?e2
            case e1 =>
              refine And.intro ⟨⟨Nat.zero_le _, by simp, rfl⟩, uP, ub1⟩ ?_
              intro zs3 o3 c3 hz3
              have hs1 := RowG.app unil rfl hlT.symm hU hz3.1 hz3.2.1 hz3.2.2
              refine And.intro rfl (And.intro rfl ?_)
              refine And.intro rfl (And.intro rfl ?_)
              refine And.intro ⟨⟨hz3.1, hz3.2.1, rfl⟩, ⟨rfl, rfl⟩, ub2⟩ ?_
              intro zs4 o4 c4 hz4
              have hs2 := RowG.snoc (x := foldB s.user) hs1 (by simp [hlT]) hz4.1 hz4.2.1 hz4.2.2
              refine And.intro rfl (And.intro rfl ?_)
              refine And.intro ⟨⟨hz4.1, hz4.2.1, rfl⟩, uQ, ub3⟩ ?_
              intro zs5 o5 c5 hz5
              have hs3 := RowG.app hs2 (by simp [hlT]) hlD.symm hQ hz5.1 hz5.2.1 hz5.2.2
              exact finReg i _ zs5 o5 c5 _ _ _ _ _ _ hI rfl hs3
            case e2 =>
              refine And.intro rfl (And.intro rfl (And.intro rfl (And.intro rfl ?_)))
              refine And.intro ⟨⟨Nat.zero_le _, by simp, rfl⟩, uP, ub1⟩ ?_
              intro zs3 o3 c3 hz3
              have hs1 := RowG.app unil rfl hlT.symm hU hz3.1 hz3.2.1 hz3.2.2
              refine And.intro rfl (And.intro rfl ?_)
              refine And.intro ⟨⟨hz3.1, hz3.2.1, rfl⟩, ⟨rfl, rfl⟩, ub2⟩ ?_
              intro zs4 o4 c4 hz4
              have hs2 := RowG.snoc (x := foldB s.user) hs1 (by simp [hlT]) hz4.1 hz4.2.1 hz4.2.2
              refine And.intro rfl (And.intro rfl ?_)
              refine And.intro ⟨⟨hz4.1, hz4.2.1, rfl⟩, uQ, ub3⟩ ?_
              intro zs5 o5 c5 hz5
              have hs3 := RowG.app hs2 (by simp [hlT]) hlD.symm hQ hz5.1 hz5.2.1 hz5.2.2
              exact finReg i _ zs5 o5 c5 _ _ _ _ _ _ hI rfl hs3
          case f =>
            refine And.intro rfl (And.intro rfl (And.intro rfl (And.intro rfl ?_)))
            refine And.intro rfl (And.intro rfl (And.intro rfl (And.intro rfl ?_)))
            refine And.intro ⟨⟨Nat.zero_le _, by simp, rfl⟩, uP, ub1⟩ ?_
            intro zs3 o3 c3 hz3
            have hs1 := RowG.app unil rfl hlT.symm hU hz3.1 hz3.2.1 hz3.2.2
            refine And.intro rfl (And.intro rfl ?_)
            refine And.intro ⟨⟨hz3.1, hz3.2.1, rfl⟩, ⟨rfl, rfl⟩, ub2⟩ ?_
            intro zs4 o4 c4 hz4
            have hs2 := RowG.snoc (x := foldB s.user) hs1 (by simp [hlT]) hz4.1 hz4.2.1 hz4.2.2
            refine And.intro rfl (And.intro rfl ?_)
            refine And.intro ⟨⟨hz4.1, hz4.2.1, rfl⟩, uQ, ub3⟩ ?_
            intro zs5 o5 c5 hz5
            have hs3 := RowG.app hs2 (by simp [hlT]) hlD.symm hQ hz5.1 hz5.2.1 hz5.2.2
            exact finReg i _ zs5 o5 c5 _ _ _ _ _ _ hI rfl hs3
      · have hil : i = w.us.length := by have t1 := of_decide_eq_false t1; omega
        have hI := last (fun h => absurd h (by omega))
        have hU := RowG.pre bcl_len hk.u hi
        have uP := rowHead bcl_len bcl_ok hk.u hi
        refine And.intro ⟨Int.natCast_nonneg i, rowLeC hk.u hi⟩ (And.intro ⟨Int.natCast_nonneg i, Int.ofNat_le.2 hi⟩ ?_)
        refine Exists.elim (⟨_, rfl⟩ : ∃ o', o' = if q.u.c = (i : Int).toNat then q.u.o else q.u.o + (i : Int).toNat * 1) fun u2 hu2 => ?_
        refine Exists.intro u2 (And.intro hu2 ?_)
        have hQ := RowG.post bcl_len hk.u hi hu2
        have uQ := rowTail bcl_len bcl_ok hk.u hi hu2
        have hlT : (w.us.take i).length = i := takeLen hi
        have hlD : (w.us.drop i).length = w.us.length - i := List.length_drop
        have ub1 := small16 (n := 0 + i) (smallA hi hul)
        have ub2 := small16 (n := 0 + i + 1) (smallB hi hul)
        have ub3 := small16 (n := 0 + i + 1 + (w.us.length - i)) (smallC hi hul)
        have unil : RowG bcl 1 [] 0 0 [] := RowG.nilS
        refine And.intro ?e ?f
        case e =>
          refine And.intro rfl (And.intro rfl (And.intro rfl (And.intro rfl ?_)))
          refine And.intro ?e1 ?e2
          case e1 =>
            refine And.intro ⟨⟨Nat.zero_le _, by simp, rfl⟩, uP, ub1⟩ ?_
            intro zs3 o3 c3 hz3
            have hs1 := RowG.app unil rfl hlT.symm hU hz3.1 hz3.2.1 hz3.2.2
            refine And.intro rfl (And.intro rfl ?_)
            refine And.intro rfl (And.intro rfl ?_)
            refine And.intro ⟨⟨hz3.1, hz3.2.1, rfl⟩, ⟨rfl, rfl⟩, ub2⟩ ?_
            intro zs4 o4 c4 hz4
            have hs2 := RowG.snoc (x := foldB s.user) hs1 (by simp [hlT]) hz4.1 hz4.2.1 hz4.2.2
            refine And.intro rfl (And.intro rfl ?_)
            refine And.intro ⟨⟨hz4.1, hz4.2.1, rfl⟩, uQ, ub3⟩ ?_
            intro zs5 o5 c5 hz5
            have hs3 := RowG.app hs2 (by simp [hlT]) hlD.symm hQ hz5.1 hz5.2.1 hz5.2.2
            exact finReg i _ zs5 o5 c5 _ _ _ _ _ _ hI rfl hs3
          case e2 =>
            refine And.intro rfl (And.intro rfl (And.intro rfl (And.intro rfl ?_)))
            refine And.intro ⟨⟨Nat.zero_le _, by simp, rfl⟩, uP, ub1⟩ ?_
            intro zs3 o3 c3 hz3
            have hs1 := RowG.app unil rfl hlT.symm hU hz3.1 hz3.2.1 hz3.2.2
            refine And.intro rfl (And.intro rfl ?_)
            refine And.intro ⟨⟨hz3.1, hz3.2.1, rfl⟩, ⟨rfl, rfl⟩, ub2⟩ ?_
            intro zs4 o4 c4 hz4
            have hs2 := RowG.snoc (x := foldB s.user) hs1 (by simp [hlT]) hz4.1 hz4.2.1 hz4.2.2
            refine And.intro rfl (And.intro rfl ?_)
            refine And.intro ⟨⟨hz4.1, hz4.2.1, rfl⟩, uQ, ub3⟩ ?_
            intro zs5 o5 c5 hz5
            have hs3 := RowG.app hs2 (by simp [hlT]) hlD.symm hQ hz5.1 hz5.2.1 hz5.2.2
            exact finReg i _ zs5 o5 c5 _ _ _ _ _ _ hI rfl hs3
        case f =>
          refine And.intro rfl (And.intro rfl (And.intro rfl (And.intro rfl ?_)))
          refine And.intro rfl (And.intro rfl (And.intro rfl (And.intro rfl ?_)))
          refine And.intro ⟨⟨Nat.zero_le _, by simp, rfl⟩, uP, ub1⟩ ?_
          intro zs3 o3 c3 hz3
          have hs1 := RowG.app unil rfl hlT.symm hU hz3.1 hz3.2.1 hz3.2.2
          refine And.intro rfl (And.intro rfl ?_)
          refine And.intro ⟨⟨hz3.1, hz3.2.1, rfl⟩, ⟨rfl, rfl⟩, ub2⟩ ?_
          intro zs4 o4 c4 hz4
          have hs2 := RowG.snoc (x := foldB s.user) hs1 (by simp [hlT]) hz4.1 hz4.2.1 hz4.2.2
          refine And.intro rfl (And.intro rfl ?_)
          refine And.intro ⟨⟨hz4.1, hz4.2.1, rfl⟩, uQ, ub3⟩ ?_
          intro zs5 o5 c5 hz5
          have hs3 := RowG.app hs2 (by simp [hlT]) hlD.symm hQ hz5.1 hz5.2.1 hz5.2.2
          exact finReg i _ zs5 o5 c5 _ _ _ _ _ _ hI rfl hs3
    case d =>
      refine And.intro rfl (And.intro rfl ?_)
      refine And.intro ⟨⟨Nat.zero_le _, by simp, rfl⟩, dP, hb1⟩ ?_
      intro zs1 o1 c1 hz1
      have hr1 := RowG.app nil0 rfl rfl hP hz1.1 hz1.2.1 hz1.2.2
      refine And.intro ⟨⟨hz1.1, hz1.2.1, rfl⟩, ⟨rfl, rfl⟩, hb2⟩ ?_
      intro zs2 o2 c2 hz2
      have hr2 := RowG.snoc (x := s) hr1 (by simp) hz2.1 hz2.2.1 hz2.2.2
      refine And.intro (fun k7 => ?_) (fun k7 => absurd (of_decide_eq_false k7) (fun k => k h5))
      have hr3 : RowG stcl 19 zs2 o2 c2 (w.R ++ [s]) := hr2
      have hE := s_Registered h hc (w.did s) { q with r := ⟨zs2, o2, c2⟩ } (hkD zs2 o2 c2 hr3) s.user (Nat.le_trans h2 (by decide))
      simp only [hoR, RH.did, hlR] at hE
      refine VCall.mk [0, 1, 12, 3, 4, 5, 6, 7] hE ⟨rfl, rfl, rfl⟩ ?_
      rintro _ _ ⟨rfl, rfl⟩
      refine And.intro (fun k8 => ?_) (fun k8 => ?_)
      · exact finNo _ zs2 o2 c2 _ _ _ _ _ he (.inl ⟨h5, k8⟩) hlR.symm hr3
      refine VCall.mk [7] (s_ref_Fold h hc s.user (Nat.le_trans h2 (by decide))) ⟨rfl, rfl, rfl⟩ ?_
      rintro _ _ ⟨rfl, rfl⟩
      have hul := hk.ul
      have finReg : ∀ (k n : Nat) (xs : List Value) (o c : Nat) (Z A B C D : SO) (l : List SO), InsU w.us (foldB s.user) k → n = 0 + k + 1 + (w.us.length - k) → RowG bcl 1 xs o c (insU w.us (foldB s.user) k) →
          VRet 8 (.tup [bv true, iv 0]) (hoRY (0 + w.R.length + 1) n w.sp.length w.su.length w.cl.length w { q with r := ⟨zs2, o2, c2⟩, u := ⟨xs, o, c⟩ } q 9 14 4 5 6 ++ [.heap h, Z, .arr zs2 T_rostrumref24_Step, A, B, C, D, .arr xs T_string] ++ l) (RDid h w q s) := by
        intro k n xs o c Z A B C D l hI hn hr
        rw [← insU_len (f := foldB s.user) hI.le] at hn
        rw [← hlR]
        subst hn
        exact VRet.mk [0, 1, 2, 3, 4, 5, 6, 7, 9, 14] (.tup [bv true, iv 0]) (hoRX (w.reg s k) { q with r := ⟨zs2, o2, c2⟩, u := ⟨xs, o, c⟩ } q 8 9 4 5 6 ++ [.heap h, .arr zs2 T_rostrumref24_Step, .arr xs T_string]) ⟨rfl, rfl, rfl⟩
          (.reg ⟨zs2, o2, c2⟩ ⟨xs, o, c⟩ k he h5 k8 hI (hkU zs2 o2 c2 hr3 k xs o c hI hr))
      refine VLoop.mk Nat (fun i => [(0, .ptr 0 0), (3, .ptr 8 0), (6, .raw (.string (foldB s.user))), (7, iv i)]) (fun _ => hoRY (0 + w.R.length + 1) w.us.length w.sp.length w.su.length w.cl.length w { q with r := ⟨zs2, o2, c2⟩ } q 9 3 4 5 6 ++ [.heap h, .cells (stcells s) T_rostrumref24_Step, .arr zs2 T_rostrumref24_Step])
        (fun i => i ≤ w.us.length ∧ ∀ j (hj : j < w.us.length), j < i → bless w.us[j] (foldB s.user) = true) (fun i => w.us.length - i) 0 [0, 1, 2, 3, 4, 5, 6, 7, 8, 12] ⟨⟨Nat.zero_le _, fun j _ hj => absurd hj (Nat.not_lt_zero j)⟩, rfl, rfl, rfl⟩ ?_
      rintro i ⟨hi, hlo⟩ g
      have last : (∀ (hk : i < w.us.length), bless w.us[i] (foldB s.user) = false) → InsU w.us (foldB s.user) i := fun h => ⟨hi, hlo, h⟩
      refine And.intro (fun t1 => ?_) (fun t1 => ?_)
      · have t1 : (i : Int) < (w.us.length : Nat) := of_decide_eq_true t1
        have hil : i < w.us.length := by omega
        have hwi : IntKind.i64.wrap ((i : Int) + 1) = ((i + 1 : Nat) : Int) := wrap64 (by omega)
        have hx := RowG.one hk.u (fun _ => rfl) hil
        refine And.intro ⟨Int.natCast_nonneg i, t1, (RowG.room hk.u)⟩ (Exists.intro _ (And.intro (by rw [Int.toNat_natCast]; exact hx) ?_))
        refine And.intro (fun t2 => ?_) (fun t2 => ?_)
        · refine Exists.intro _ (And.intro hwi ?_)
          refine Exists.intro (i + 1) (Exists.intro [0, 1, 2, 3, 4, 5, 6, 7, 8, 9] (And.intro ⟨⟨hil, fun j hj hji => ?_⟩, by omega⟩ ⟨rfl, rfl, rfl⟩))
          by_cases e : j = i
          · subst e; exact t2
          · exact hlo j hj (by omega)
        · have hI := last (fun _ => t2)
          have hU := RowG.pre bcl_len hk.u hi
          have uP := rowHead bcl_len bcl_ok hk.u hi
          refine And.intro ⟨Int.natCast_nonneg i, rowLeC hk.u hi⟩ (And.intro ⟨Int.natCast_nonneg i, Int.ofNat_le.2 hi⟩ ?_)
          refine Exists.elim (⟨_, rfl⟩ : ∃ o', o' = if q.u.c = (i : Int).toNat then q.u.o else q.u.o + (i : Int).toNat * 1) fun u2 hu2 => ?_
          refine Exists.intro u2 (And.intro hu2 ?_)
          have hQ := RowG.post bcl_len hk.u hi hu2
          have uQ := rowTail bcl_len bcl_ok hk.u hi hu2
          have hlT : (w.us.take i).length = i := takeLen hi
          have hlD : (w.us.drop i).length = w.us.length - i := List.length_drop
          have ub1 := small16 (n := 0 + i) (smallA hi hul)
          have ub2 := small16 (n := 0 + i + 1) (smallB hi hul)
          have ub3 := small16 (n := 0 + i + 1 + (w.us.length - i)) (smallC hi hul)
          have unil : RowG bcl 1 [] 0 0 [] := RowG.nilS
          refine And.intro ?e ?f
          case e =>
            refine And.intro rfl (And.intro rfl (And.intro rfl (And.intro rfl ?_)))
            refine And.intro ?e1 ?e2
            case e1 =>
              refine And.intro ⟨⟨Nat.zero_le _, by simp, rfl⟩, uP, ub1⟩ ?_
              intro zs3 o3 c3 hz3
              have hs1 := RowG.app unil rfl hlT.symm hU hz3.1 hz3.2.1 hz3.2.2
              refine And.intro rfl (And.intro rfl ?_)
              refine And.intro rfl (And.intro rfl ?_)
              refine And.intro ⟨⟨hz3.1, hz3.2.1, rfl⟩, ⟨rfl, rfl⟩, ub2⟩ ?_
              intro zs4 o4 c4 hz4
              have hs2 := RowG.snoc (x := foldB s.user) hs1 (by simp [hlT]) hz4.1 hz4.2.1 hz4.2.2
              refine And.intro rfl (And.intro rfl ?_)
              refine And.intro ⟨⟨hz4.1, hz4.2.1, rfl⟩, uQ, ub3⟩ ?_
              intro zs5 o5 c5 hz5
              have hs3 := RowG.app hs2 (by simp [hlT]) hlD.symm hQ hz5.1 hz5.2.1 hz5.2.2
              exact finReg i _ zs5 o5 c5 _ _ _ _ _ _ hI rfl hs3
            case e2 =>
              refine And.intro rfl (And.intro rfl (And.intro rfl (And.intro rfl ?_)))
              refine And.intro ⟨⟨Nat.zero_le _, by simp, rfl⟩, uP, ub1⟩ ?_
              intro zs3 o3 c3 hz3
              have hs1 := RowG.app unil rfl hlT.symm hU hz3.1 hz3.2.1 hz3.2.2
              refine And.intro rfl (And.intro rfl ?_)
              refine And.intro ⟨⟨hz3.1, hz3.2.1, rfl⟩, ⟨rfl, rfl⟩, ub2⟩ ?_
              intro zs4 o4 c4 hz4
              have hs2 := RowG.snoc (x := foldB s.user) hs1 (by simp [hlT]) hz4.1 hz4.2.1 hz4.2.2
              refine And.intro rfl (And.intro rfl ?_)
              refine And.intro ⟨⟨hz4.1, hz4.2.1, rfl⟩, uQ, ub3⟩ ?_
              intro zs5 o5 c5 hz5
              have hs3 := RowG.app hs2 (by simp [hlT]) hlD.symm hQ hz5.1 hz5.2.1 hz5.2.2
              exact finReg i _ zs5 o5 c5 _ _ _ _ _ _ hI rfl hs3
          case f =>
            refine And.intro rfl (And.intro rfl (And.intro rfl (And.intro rfl ?_)))
            refine And.intro rfl (And.intro rfl (And.intro rfl (And.intro rfl ?_)))
            refine And.intro ⟨⟨Nat.zero_le _, by simp, rfl⟩, uP, ub1⟩ ?_
            intro zs3 o3 c3 hz3
            have hs1 := RowG.app unil rfl hlT.symm hU hz3.1 hz3.2.1 hz3.2.2
            refine And.intro rfl (And.intro rfl ?_)
            refine And.intro ⟨⟨hz3.1, hz3.2.1, rfl⟩, ⟨rfl, rfl⟩, ub2⟩ ?_
            intro zs4 o4 c4 hz4
            have hs2 := RowG.snoc (x := foldB s.user) hs1 (by simp [hlT]) hz4.1 hz4.2.1 hz4.2.2
            refine And.intro rfl (And.intro rfl ?_)
            refine And.intro ⟨⟨hz4.1, hz4.2.1, rfl⟩, uQ, ub3⟩ ?_
            intro zs5 o5 c5 hz5
            have hs3 := RowG.app hs2 (by simp [hlT]) hlD.symm hQ hz5.1 hz5.2.1 hz5.2.2
            exact finReg i _ zs5 o5 c5 _ _ _ _ _ _ hI rfl hs3
      · have hil : i = w.us.length := by have t1 := of_decide_eq_false t1; omega
        have hI := last (fun h => absurd h (by omega))
        have hU := RowG.pre bcl_len hk.u hi
        have uP := rowHead bcl_len bcl_ok hk.u hi
        refine And.intro ⟨Int.natCast_nonneg i, rowLeC hk.u hi⟩ (And.intro ⟨Int.natCast_nonneg i, Int.ofNat_le.2 hi⟩ ?_)
        refine Exists.elim (⟨_, rfl⟩ : ∃ o', o' = if q.u.c = (i : Int).toNat then q.u.o else q.u.o + (i : Int).toNat * 1) fun u2 hu2 => ?_
        refine Exists.intro u2 (And.intro hu2 ?_)
        have hQ := RowG.post bcl_len hk.u hi hu2
        have uQ := rowTail bcl_len bcl_ok hk.u hi hu2
        have hlT : (w.us.take i).length = i := takeLen hi
        have hlD : (w.us.drop i).length = w.us.length - i := List.length_drop
        have ub1 := small16 (n := 0 + i) (smallA hi hul)
        have ub2 := small16 (n := 0 + i + 1) (smallB hi hul)
        have ub3 := small16 (n := 0 + i + 1 + (w.us.length - i)) (smallC hi hul)
        have unil : RowG bcl 1 [] 0 0 [] := RowG.nilS
        refine And.intro ?e ?f
        case e =>
          refine And.intro rfl (And.intro rfl (And.intro rfl (And.intro rfl ?_)))
          refine And.intro ?e1 ?e2
          case e1 =>
            refine And.intro ⟨⟨Nat.zero_le _, by simp, rfl⟩, uP, ub1⟩ ?_
            intro zs3 o3 c3 hz3
            have hs1 := RowG.app unil rfl hlT.symm hU hz3.1 hz3.2.1 hz3.2.2
            refine And.intro rfl (And.intro rfl ?_)
            refine And.intro rfl (And.intro rfl ?_)
            refine And.intro ⟨⟨hz3.1, hz3.2.1, rfl⟩, ⟨rfl, rfl⟩, ub2⟩ ?_
            intro zs4 o4 c4 hz4
            have hs2 := RowG.snoc (x := foldB s.user) hs1 (by simp [hlT]) hz4.1 hz4.2.1 hz4.2.2
            refine And.intro rfl (And.intro rfl ?_)
            refine And.intro ⟨⟨hz4.1, hz4.2.1, rfl⟩, uQ, ub3⟩ ?_
            intro zs5 o5 c5 hz5
            have hs3 := RowG.app hs2 (by simp [hlT]) hlD.symm hQ hz5.1 hz5.2.1 hz5.2.2
            exact finReg i _ zs5 o5 c5 _ _ _ _ _ _ hI rfl hs3
          case e2 =>
            refine And.intro rfl (And.intro rfl (And.intro rfl (And.intro rfl ?_)))
            refine And.intro ⟨⟨Nat.zero_le _, by simp, rfl⟩, uP, ub1⟩ ?_
            intro zs3 o3 c3 hz3
            have hs1 := RowG.app unil rfl hlT.symm hU hz3.1 hz3.2.1 hz3.2.2
            refine And.intro rfl (And.intro rfl ?_)
            refine And.intro ⟨⟨hz3.1, hz3.2.1, rfl⟩, ⟨rfl, rfl⟩, ub2⟩ ?_
            intro zs4 o4 c4 hz4
            have hs2 := RowG.snoc (x := foldB s.user) hs1 (by simp [hlT]) hz4.1 hz4.2.1 hz4.2.2
            refine And.intro rfl (And.intro rfl ?_)
            refine And.intro ⟨⟨hz4.1, hz4.2.1, rfl⟩, uQ, ub3⟩ ?_
            intro zs5 o5 c5 hz5
            have hs3 := RowG.app hs2 (by simp [hlT]) hlD.symm hQ hz5.1 hz5.2.1 hz5.2.2
            exact finReg i _ zs5 o5 c5 _ _ _ _ _ _ hI rfl hs3
        case f =>
          refine And.intro rfl (And.intro rfl (And.intro rfl (And.intro rfl ?_)))
          refine And.intro rfl (And.intro rfl (And.intro rfl (And.intro rfl ?_)))
          refine And.intro ⟨⟨Nat.zero_le _, by simp, rfl⟩, uP, ub1⟩ ?_
          intro zs3 o3 c3 hz3
          have hs1 := RowG.app unil rfl hlT.symm hU hz3.1 hz3.2.1 hz3.2.2
          refine And.intro rfl (And.intro rfl ?_)
          refine And.intro ⟨⟨hz3.1, hz3.2.1, rfl⟩, ⟨rfl, rfl⟩, ub2⟩ ?_
          intro zs4 o4 c4 hz4
          have hs2 := RowG.snoc (x := foldB s.user) hs1 (by simp [hlT]) hz4.1 hz4.2.1 hz4.2.2
          refine And.intro rfl (And.intro rfl ?_)
          refine And.intro ⟨⟨hz4.1, hz4.2.1, rfl⟩, uQ, ub3⟩ ?_
          intro zs5 o5 c5 hz5
          have hs3 := RowG.app hs2 (by simp [hlT]) hlD.symm hQ hz5.1 hz5.2.1 hz5.2.2
          exact finReg i _ zs5 o5 c5 _ _ _ _ _ _ hI rfl hs3
  case b =>
    refine And.intro rfl (And.intro rfl ?_)
    refine And.intro rfl (And.intro rfl ?_)
    refine And.intro ⟨⟨Nat.zero_le _, by simp, rfl⟩, dP, hb1⟩ ?_
    intro zs1 o1 c1 hz1
    have hr1 := RowG.app nil0 rfl rfl hP hz1.1 hz1.2.1 hz1.2.2
    refine And.intro ⟨⟨hz1.1, hz1.2.1, rfl⟩, ⟨rfl, rfl⟩, hb2⟩ ?_
    intro zs2 o2 c2 hz2
    have hr2 := RowG.snoc (x := s) hr1 (by simp) hz2.1 hz2.2.1 hz2.2.2
    refine And.intro (fun k7 => ?_) (fun k7 => absurd (of_decide_eq_false k7) (fun k => k h5))
    have hr3 : RowG stcl 19 zs2 o2 c2 (w.R ++ [s]) := hr2
    have hE := s_Registered h hc (w.did s) { q with r := ⟨zs2, o2, c2⟩ } (hkD zs2 o2 c2 hr3) s.user (Nat.le_trans h2 (by decide))
    simp only [hoR, RH.did, hlR] at hE
    refine VCall.mk [0, 1, 12, 3, 4, 5, 6, 7] hE ⟨rfl, rfl, rfl⟩ ?_
    rintro _ _ ⟨rfl, rfl⟩
    refine And.intro (fun k8 => ?_) (fun k8 => ?_)
    · exact finNo _ zs2 o2 c2 _ _ _ _ _ he (.inl ⟨h5, k8⟩) hlR.symm hr3
    refine VCall.mk [7] (s_ref_Fold h hc s.user (Nat.le_trans h2 (by decide))) ⟨rfl, rfl, rfl⟩ ?_
    rintro _ _ ⟨rfl, rfl⟩
    have hul := hk.ul
    have finReg : ∀ (k n : Nat) (xs : List Value) (o c : Nat) (Z A B C D : SO) (l : List SO), InsU w.us (foldB s.user) k → n = 0 + k + 1 + (w.us.length - k) → RowG bcl 1 xs o c (insU w.us (foldB s.user) k) →
        VRet 8 (.tup [bv true, iv 0]) (hoRY (0 + w.R.length + 1) n w.sp.length w.su.length w.cl.length w { q with r := ⟨zs2, o2, c2⟩, u := ⟨xs, o, c⟩ } q 9 14 4 5 6 ++ [.heap h, Z, .arr zs2 T_rostrumref24_Step, A, B, C, D, .arr xs T_string] ++ l) (RDid h w q s) := by
      intro k n xs o c Z A B C D l hI hn hr
      rw [← insU_len (f := foldB s.user) hI.le] at hn
      rw [← hlR]
      subst hn
      exact VRet.mk [0, 1, 2, 3, 4, 5, 6, 7, 9, 14] (.tup [bv true, iv 0]) (hoRX (w.reg s k) { q with r := ⟨zs2, o2, c2⟩, u := ⟨xs, o, c⟩ } q 8 9 4 5 6 ++ [.heap h, .arr zs2 T_rostrumref24_Step, .arr xs T_string]) ⟨rfl, rfl, rfl⟩
        (.reg ⟨zs2, o2, c2⟩ ⟨xs, o, c⟩ k he h5 k8 hI (hkU zs2 o2 c2 hr3 k xs o c hI hr))
    refine VLoop.mk Nat (fun i => [(0, .ptr 0 0), (3, .ptr 8 0), (6, .raw (.string (foldB s.user))), (7, iv i)]) (fun _ => hoRY (0 + w.R.length + 1) w.us.length w.sp.length w.su.length w.cl.length w { q with r := ⟨zs2, o2, c2⟩ } q 9 3 4 5 6 ++ [.heap h, .cells (stcells s) T_rostrumref24_Step, .arr zs2 T_rostrumref24_Step])
      (fun i => i ≤ w.us.length ∧ ∀ j (hj : j < w.us.length), j < i → bless w.us[j] (foldB s.user) = true) (fun i => w.us.length - i) 0 [0, 1, 2, 3, 4, 5, 6, 7, 8, 12] ⟨⟨Nat.zero_le _, fun j _ hj => absurd hj (Nat.not_lt_zero j)⟩, rfl, rfl, rfl⟩ ?_
    rintro i ⟨hi, hlo⟩ g
    have last : (∀ (hk : i < w.us.length), bless w.us[i] (foldB s.user) = false) → InsU w.us (foldB s.user) i := fun h => ⟨hi, hlo, h⟩
    refine And.intro (fun t1 => ?_) (fun t1 => ?_)
    · have t1 : (i : Int) < (w.us.length : Nat) := of_decide_eq_true t1
      have hil : i < w.us.length := by omega
      have hwi : IntKind.i64.wrap ((i : Int) + 1) = ((i + 1 : Nat) : Int) := wrap64 (by omega)
      have hx := RowG.one hk.u (fun _ => rfl) hil
      refine And.intro ⟨Int.natCast_nonneg i, t1, (RowG.room hk.u)⟩ (Exists.intro _ (And.intro (by rw [Int.toNat_natCast]; exact hx) ?_))
      refine And.intro (fun t2 => ?_) (fun t2 => ?_)
      · refine Exists.intro _ (And.intro hwi ?_)
        refine Exists.intro (i + 1) (Exists.intro [0, 1, 2, 3, 4, 5, 6, 7, 8, 9] (And.intro ⟨⟨hil, fun j hj hji => ?_⟩, by omega⟩ ⟨rfl, rfl, rfl⟩))
        by_cases e : j = i
        · subst e; exact t2
        · exact hlo j hj (by omega)
      · have hI := last (fun _ => t2)
        have hU := RowG.pre bcl_len hk.u hi
        have uP := rowHead bcl_len bcl_ok hk.u hi
        refine And.intro ⟨Int.natCast_nonneg i, rowLeC hk.u hi⟩ (And.intro ⟨Int.natCast_nonneg i, Int.ofNat_le.2 hi⟩ ?_)
        refine Exists.elim (⟨_, rfl⟩ : ∃ o', o' = if q.u.c = (i : Int).toNat then q.u.o else q.u.o + (i : Int).toNat * 1) fun u2 hu2 => ?_
        refine Exists.intro u2 (And.intro hu2 ?_)
        have hQ := RowG.post bcl_len hk.u hi hu2
        have uQ := rowTail bcl_len bcl_ok hk.u hi hu2
        have hlT : (w.us.take i).length = i := takeLen hi
        have hlD : (w.us.drop i).length = w.us.length - i := List.length_drop
        have ub1 := small16 (n := 0 + i) (smallA hi hul)
        have ub2 := small16 (n := 0 + i + 1) (smallB hi hul)
        have ub3 := small16 (n := 0 + i + 1 + (w.us.length - i)) (smallC hi hul)
        have unil : RowG bcl 1 [] 0 0 [] := RowG.nilS
        refine And.intro ?e ?f
        case e =>
          refine And.intro rfl (And.intro rfl (And.intro rfl (And.intro rfl ?_)))
          refine And.intro ?e1 ?e2
          case e1 =>
            refine And.intro ⟨⟨Nat.zero_le _, by simp, rfl⟩, uP, ub1⟩ ?_
            intro zs3 o3 c3 hz3
            have hs1 := RowG.app unil rfl hlT.symm hU hz3.1 hz3.2.1 hz3.2.2
            refine And.intro rfl (And.intro rfl ?_)
            refine And.intro rfl (And.intro rfl ?_)
            refine And.intro ⟨⟨hz3.1, hz3.2.1, rfl⟩, ⟨rfl, rfl⟩, ub2⟩ ?_
            intro zs4 o4 c4 hz4
            have hs2 := RowG.snoc (x := foldB s.user) hs1 (by simp [hlT]) hz4.1 hz4.2.1 hz4.2.2
            refine And.intro rfl (And.intro rfl ?_)
            refine And.intro ⟨⟨hz4.1, hz4.2.1, rfl⟩, uQ, ub3⟩ ?_
            intro zs5 o5 c5 hz5
            have hs3 := RowG.app hs2 (by simp [hlT]) hlD.symm hQ hz5.1 hz5.2.1 hz5.2.2
            exact finReg i _ zs5 o5 c5 _ _ _ _ _ _ hI rfl hs3
          case e2 =>
            refine And.intro rfl (And.intro rfl (And.intro rfl (And.intro rfl ?_)))
            refine And.intro ⟨⟨Nat.zero_le _, by simp, rfl⟩, uP, ub1⟩ ?_
            intro zs3 o3 c3 hz3
            have hs1 := RowG.app unil rfl hlT.symm hU hz3.1 hz3.2.1 hz3.2.2
            refine And.intro rfl (And.intro rfl ?_)
            refine And.intro ⟨⟨hz3.1, hz3.2.1, rfl⟩, ⟨rfl, rfl⟩, ub2⟩ ?_
            intro zs4 o4 c4 hz4
            have hs2 := RowG.snoc (x := foldB s.user) hs1 (by simp [hlT]) hz4.1 hz4.2.1 hz4.2.2
            refine And.intro rfl (And.intro rfl ?_)
            refine And.intro ⟨⟨hz4.1, hz4.2.1, rfl⟩, uQ, ub3⟩ ?_
            intro zs5 o5 c5 hz5
            have hs3 := RowG.app hs2 (by simp [hlT]) hlD.symm hQ hz5.1 hz5.2.1 hz5.2.2
            exact finReg i _ zs5 o5 c5 _ _ _ _ _ _ hI rfl hs3
        case f =>
          refine And.intro rfl (And.intro rfl (And.intro rfl (And.intro rfl ?_)))
          refine And.intro rfl (And.intro rfl (And.intro rfl (And.intro rfl ?_)))
          refine And.intro ⟨⟨Nat.zero_le _, by simp, rfl⟩, uP, ub1⟩ ?_
          intro zs3 o3 c3 hz3
          have hs1 := RowG.app unil rfl hlT.symm hU hz3.1 hz3.2.1 hz3.2.2
          refine And.intro rfl (And.intro rfl ?_)
          refine And.intro ⟨⟨hz3.1, hz3.2.1, rfl⟩, ⟨rfl, rfl⟩, ub2⟩ ?_
          intro zs4 o4 c4 hz4
          have hs2 := RowG.snoc (x := foldB s.user) hs1 (by simp [hlT]) hz4.1 hz4.2.1 hz4.2.2
          refine And.intro rfl (And.intro rfl ?_)
          refine And.intro ⟨⟨hz4.1, hz4.2.1, rfl⟩, uQ, ub3⟩ ?_
          intro zs5 o5 c5 hz5
          have hs3 := RowG.app hs2 (by simp [hlT]) hlD.symm hQ hz5.1 hz5.2.1 hz5.2.2
          exact finReg i _ zs5 o5 c5 _ _ _ _ _ _ hI rfl hs3
    · have hil : i = w.us.length := by have t1 := of_decide_eq_false t1; omega
      have hI := last (fun h => absurd h (by omega))
      have hU := RowG.pre bcl_len hk.u hi
      have uP := rowHead bcl_len bcl_ok hk.u hi
      refine And.intro ⟨Int.natCast_nonneg i, rowLeC hk.u hi⟩ (And.intro ⟨Int.natCast_nonneg i, Int.ofNat_le.2 hi⟩ ?_)
      refine Exists.elim (⟨_, rfl⟩ : ∃ o', o' = if q.u.c = (i : Int).toNat then q.u.o else q.u.o + (i : Int).toNat * 1) fun u2 hu2 => ?_
      refine Exists.intro u2 (And.intro hu2 ?_)
      have hQ := RowG.post bcl_len hk.u hi hu2
      have uQ := rowTail bcl_len bcl_ok hk.u hi hu2
      have hlT : (w.us.take i).length = i := takeLen hi
      have hlD : (w.us.drop i).length = w.us.length - i := List.length_drop
      have ub1 := small16 (n := 0 + i) (smallA hi hul)
      have ub2 := small16 (n := 0 + i + 1) (smallB hi hul)
      have ub3 := small16 (n := 0 + i + 1 + (w.us.length - i)) (smallC hi hul)
      have unil : RowG bcl 1 [] 0 0 [] := RowG.nilS
      refine And.intro ?e ?f
      case e =>
        refine And.intro rfl (And.intro rfl (And.intro rfl (And.intro rfl ?_)))
        refine And.intro ?e1 ?e2
        case e1 =>
          refine And.intro ⟨⟨Nat.zero_le _, by simp, rfl⟩, uP, ub1⟩ ?_
          intro zs3 o3 c3 hz3
          have hs1 := RowG.app unil rfl hlT.symm hU hz3.1 hz3.2.1 hz3.2.2
          refine And.intro rfl (And.intro rfl ?_)
          refine And.intro rfl (And.intro rfl ?_)
          refine And.intro ⟨⟨hz3.1, hz3.2.1, rfl⟩, ⟨rfl, rfl⟩, ub2⟩ ?_
          intro zs4 o4 c4 hz4
          have hs2 := RowG.snoc (x := foldB s.user) hs1 (by simp [hlT]) hz4.1 hz4.2.1 hz4.2.2
          refine And.intro rfl (And.intro rfl ?_)
          refine And.intro ⟨⟨hz4.1, hz4.2.1, rfl⟩, uQ, ub3⟩ ?_
          intro zs5 o5 c5 hz5
          have hs3 := RowG.app hs2 (by simp [hlT]) hlD.symm hQ hz5.1 hz5.2.1 hz5.2.2
          exact finReg i _ zs5 o5 c5 _ _ _ _ _ _ hI rfl hs3
        case e2 =>
          refine And.intro rfl (And.intro rfl (And.intro rfl (And.intro rfl ?_)))
          refine And.intro ⟨⟨Nat.zero_le _, by simp, rfl⟩, uP, ub1⟩ ?_
          intro zs3 o3 c3 hz3
          have hs1 := RowG.app unil rfl hlT.symm hU hz3.1 hz3.2.1 hz3.2.2
          refine And.intro rfl (And.intro rfl ?_)
          refine And.intro ⟨⟨hz3.1, hz3.2.1, rfl⟩, ⟨rfl, rfl⟩, ub2⟩ ?_
          intro zs4 o4 c4 hz4
          have hs2 := RowG.snoc (x := foldB s.user) hs1 (by simp [hlT]) hz4.1 hz4.2.1 hz4.2.2
          refine And.intro rfl (And.intro rfl ?_)
          refine And.intro ⟨⟨hz4.1, hz4.2.1, rfl⟩, uQ, ub3⟩ ?_
          intro zs5 o5 c5 hz5
          have hs3 := RowG.app hs2 (by simp [hlT]) hlD.symm hQ hz5.1 hz5.2.1 hz5.2.2
          exact finReg i _ zs5 o5 c5 _ _ _ _ _ _ hI rfl hs3
      case f =>
        refine And.intro rfl (And.intro rfl (And.intro rfl (And.intro rfl ?_)))
        refine And.intro rfl (And.intro rfl (And.intro rfl (And.intro rfl ?_)))
        refine And.intro ⟨⟨Nat.zero_le _, by simp, rfl⟩, uP, ub1⟩ ?_
        intro zs3 o3 c3 hz3
        have hs1 := RowG.app unil rfl hlT.symm hU hz3.1 hz3.2.1 hz3.2.2
        refine And.intro rfl (And.intro rfl ?_)
        refine And.intro ⟨⟨hz3.1, hz3.2.1, rfl⟩, ⟨rfl, rfl⟩, ub2⟩ ?_
        intro zs4 o4 c4 hz4
        have hs2 := RowG.snoc (x := foldB s.user) hs1 (by simp [hlT]) hz4.1 hz4.2.1 hz4.2.2
        refine And.intro rfl (And.intro rfl ?_)
        refine And.intro ⟨⟨hz4.1, hz4.2.1, rfl⟩, uQ, ub3⟩ ?_
        intro zs5 o5 c5 hz5
        have hs3 := RowG.app hs2 (by simp [hlT]) hlD.symm hQ hz5.1 hz5.2.1 hz5.2.2
        exact finReg i _ zs5 o5 c5 _ _ _ _ _ _ hI rfl hs3
end Go.Proofs

namespace Go.Proofs
open Go Go.V Go.Lib
set_option maxRecDepth 100000
set_option linter.unusedVariables false

theorem small8 {n : Nat} (h : n ≤ 5000) : n * 8 ≤ 1099511627776 := by omega
theorem whole1 {α : Type} {cl : α → List Value} {k : Nat} (hk : ∀ x, (cl x).length = k) (hc : ∀ x l, cellsOK l = true → cellsOK (cl x ++ l) = true) {xs : List Value} {o c : Nat} {l : List α} (h : RowG cl k xs o c l) :
    ((xs.drop o).take (l.length * k)).length = l.length * k ∧ cellsOK ((xs.drop o).take (l.length * k)) = true := by
  rw [h.2.2]; exact ⟨fm_len hk l, fm_ok hc l⟩
theorem wrapSub {a b : Int} {n : Nat} (h1 : 0 ≤ a) (h2 : a ≤ 1125899906842624) (h3 : 0 ≤ b) (h4 : b ≤ 1000000000 * n) (h5 : n ≤ 1000) : IntKind.i64.wrap (a - b) = a - b := wrap64 (by omega)
set_option maxHeartbeats 4000000 in
theorem s_refDo6 (h : Nat → Option Obj) (hu : Uni h) (hc : CaseH h) (w : RH) (q : RQ) (hk : RK w q) (hs : ∀ n, n ∈ w.su → 0 ≤ n ∧ n ≤ 1000000000) (hn : w.R.length < 1000) (hn2 : w.sp.length < 1000) (s : ST) (h1 : s.name.size ≤ 1000) (h2 : s.user.size ≤ 1000) (h6 : s.kind = 6) :
    Ctr Tryz.prog F_rostrumref24_House_Do [.ptr 0 0, .agg (stcells s)] (hoR w q ++ [.heap h]) (RDid h w q s) := by
  have hkD : ∀ zs o c, RowG stcl 19 zs o c (w.R ++ [s]) → RK (w.did s) { q with r := ⟨zs, o, c⟩ } := fun zs o c hr =>
    ⟨hk.l, hr, hk.u, hk.p, hk.s, hk.e, hk.ll, by show (w.R ++ [s]).length ≤ 1000; simp; omega, hk.ul, hk.pl, hk.sl, hk.el⟩
  have hkP : ∀ zs o c, RowG stcl 19 zs o c (w.R ++ [s]) → ∀ zs2 o2 c2, RowG bcl 1 zs2 o2 c2 (w.sp ++ [foldB s.user]) → ∀ zs3 o3 c3, RowG ncl 1 zs3 o3 c3 (w.su ++ [s.amount]) → RK (w.pay s) { q with r := ⟨zs, o, c⟩, p := ⟨zs2, o2, c2⟩, s := ⟨zs3, o3, c3⟩ } := fun zs o c hr zs2 o2 c2 hp zs3 o3 c3 hq =>
    ⟨hk.l, hr, hk.u, hp, hq, hk.e, hk.ll, by show (w.R ++ [s]).length ≤ 1000; simp; omega, hk.ul, by show (w.sp ++ [foldB s.user]).length ≤ 1000; simp; omega, by show (w.su ++ [s.amount]).length = (w.sp ++ [foldB s.user]).length; simp [hk.sl], hk.el⟩
  have finPay : ∀ (n m : Nat) (zs xs ys : List Value) (o c o4 c4 o6 c6 : Nat) (Z A B C D E F G I J : SO) (l : List SO), n = 0 + w.sp.length + 1 → m = 0 + w.su.length + 1 → ¬ s.funds - wdS (foldB s.user) w.sp w.su < s.amount →
      RowG stcl 19 zs o c (w.R ++ [s]) → RowG bcl 1 xs o4 c4 (w.sp ++ [foldB s.user]) → RowG ncl 1 ys o6 c6 (w.su ++ [s.amount]) → refDE w s = 0 →
      VRet 8 (.tup [bv true, iv 0]) (hoRY (0 + w.R.length + 1) w.us.length n m w.cl.length w { q with r := ⟨zs, o, c⟩, p := ⟨xs, o4, c4⟩, s := ⟨ys, o6, c6⟩ } q 12 3 16 20 6 ++ [.heap h, Z, A, B, C, .arr zs T_rostrumref24_Step, D, E, F, .arr xs T_string, G, I, J, .arr ys T_int64] ++ l) (RDid h w q s) := by
    intro n m zs xs ys o c o4 c4 o6 c6 Z A B C D E F G I J l hn hm hf hr hp hq he
    have e1 : 0 + w.R.length + 1 = (w.did s).R.length := by show _ = (w.R ++ [s]).length; simp
    have e2 : n = (w.pay s).sp.length := by show _ = (w.sp ++ [foldB s.user]).length; simp [hn]
    have e3 : m = (w.pay s).su.length := by show _ = (w.su ++ [s.amount]).length; simp [hm]
    subst e2 e3
    rw [e1]
    exact VRet.mk [0, 1, 2, 3, 4, 5, 6, 7, 12, 16, 20] (.tup [bv true, iv 0]) (hoRX (w.pay s) { q with r := ⟨zs, o, c⟩, p := ⟨xs, o4, c4⟩, s := ⟨ys, o6, c6⟩ } q 8 3 9 10 6 ++ [.heap h, .arr zs T_rostrumref24_Step, .arr xs T_string, .arr ys T_int64]) ⟨rfl, rfl, rfl⟩
      (.pay ⟨zs, o, c⟩ ⟨xs, o4, c4⟩ ⟨ys, o6, c6⟩ he h6 hf (hkP zs o c hr xs o4 c4 hp ys o6 c6 hq))
  have fin : ∀ (e : Int) (l : List SO), e ≠ 0 → refDE w s = e → VRet 8 (.tup [bv false, iv e]) (hoR w q ++ .heap h :: l) (RDid h w q s) := by
    intro e l he hb
    subst hb
    exact VRet.mk [0, 1, 2, 3, 4, 5, 6, 7] (.tup [bv false, iv (refDE w s)]) (hoR w q ++ [.heap h]) ⟨rfl, rfl, rfl⟩ (.bad he)
  have finNo : ∀ (n : Nat) (zs : List Value) (o c : Nat) (Z A B C : SO) (l : List SO), refDE w s = 0 → (s.kind = 5 ∧ regF w (foldB s.user) = true ∨ s.kind = 6 ∧ s.funds - wdS (foldB s.user) w.sp w.su < s.amount ∨ s.kind = 7 ∧ mayR w s = false) → n = (w.R ++ [s]).length → RowG stcl 19 zs o c (w.R ++ [s]) →
      VRet 8 (.tup [bv false, iv 0]) (hoRY n w.us.length w.sp.length w.su.length w.cl.length w { q with r := ⟨zs, o, c⟩ } q 12 3 4 5 6 ++ [.heap h, Z, A, B, C, .arr zs T_rostrumref24_Step] ++ l) (RDid h w q s) := by
    rintro _ zs o c Z A B C l he hw rfl hr
    exact VRet.mk [0, 1, 2, 3, 4, 5, 6, 7, 12] (.tup [bv false, iv 0]) (hoRX (w.did s) { q with r := ⟨zs, o, c⟩ } q 8 3 4 5 6 ++ [.heap h, .arr zs T_rostrumref24_Step]) ⟨rfl, rfl, rfl⟩ (.no ⟨zs, o, c⟩ he hw (hkD zs o c hr))
  refine i_rostrumref24_House_Do.spec follows ?_
  refine VCall.mk [7] (s_refGood h hu s h1 h2) ⟨rfl, rfl, rfl⟩ ?_
  rintro _ _ ⟨rfl, rfl⟩
  refine And.intro (fun k1 => ?_) (fun k1 => fin 1 _ (by decide) (by have k1 := nT k1; rw [refDE, k1]; rfl))
  have k1 := nF k1
  refine And.intro (fun k2 => fin 1 _ (by decide) (by rw [refDE, show decide (s.kind < 5) = true from k2]; simp)) (fun k2 => ?_)
  have k2 : decide (s.kind < 5) = false := k2
  refine VCall.mk [] (s_ref_Le s.seen w.v) ⟨rfl, rfl, rfl⟩ ?_
  rintro _ _ ⟨rfl, rfl⟩
  refine And.intro (fun k3 => ?_) (fun k3 => fin 8 _ (by decide) (by have k3 := nT k3; rw [refDE, k1, k2, k3]; rfl))
  have k3 := nF k3
  refine And.intro (fun k4 => fin 8 _ (by decide) (by rw [refDE, k1, k2, k3, show decide ((w.R.length : Int) < s.reds) = true from k4]; rfl)) (fun k4 => ?_)
  have he : refDE w s = 0 := by rw [refDE, k1, k2, k3, show decide ((w.R.length : Int) < s.reds) = false from k4]; rfl
  have hP : (q.r.xs.drop q.r.o).take (w.R.length * 19) = w.R.flatMap stcl := hk.r.2.2
  have dP : (List.take (w.R.length * 19) (List.drop q.r.o q.r.xs)).length = w.R.length * 19 ∧ cellsOK (List.take (w.R.length * 19) (List.drop q.r.o q.r.xs)) = true := by
    rw [hP]; exact ⟨fm_len stcl_len _, fm_ok stcl_ok _⟩
  have hb1 : (0 + w.R.length) * 168 ≤ 1099511627776 := by have := hk.rl; omega
  have hb2 : (0 + w.R.length + 1) * 168 ≤ 1099511627776 := by have := hk.rl; omega
  have nil0 : RowG stcl 19 [] 0 0 [] := RowG.nilS
  have hlR : (w.R ++ [s]).length = 0 + w.R.length + 1 := by simp
  refine And.intro ?a ?b
  case a =>
    refine And.intro rfl (And.intro rfl (And.intro rfl ?_))
    refine And.intro ?c ?d
    case c =>
      refine And.intro ⟨⟨Nat.zero_le _, by simp, rfl⟩, dP, hb1⟩ ?_
      intro zs1 o1 c1 hz1
      have hr1 := RowG.app nil0 rfl rfl hP hz1.1 hz1.2.1 hz1.2.2
      refine And.intro rfl ?_
      refine And.intro ⟨⟨hz1.1, hz1.2.1, rfl⟩, ⟨rfl, rfl⟩, hb2⟩ ?_
      intro zs2 o2 c2 hz2
      have hr2 := RowG.snoc (x := s) hr1 (by simp) hz2.1 hz2.2.1 hz2.2.2
      refine And.intro (fun k7 => absurd (of_decide_eq_true k7) (fun k => absurd (k.symm.trans h6) (by decide))) (fun k7 => ?_)
      refine And.intro (fun k7 => ?_) (fun k7 => absurd h6 (of_decide_eq_false k7))
      have hr3 : RowG stcl 19 zs2 o2 c2 (w.R ++ [s]) := hr2
      have hE := s_withdrawn h hc (w.did s) { q with r := ⟨zs2, o2, c2⟩ } (hkD zs2 o2 c2 hr3) hs s.user (Nat.le_trans h2 (by decide))
      simp only [hoR, RH.did, hlR] at hE
      refine VCall.mk [0, 1, 12, 3, 4, 5, 6, 7] hE ⟨rfl, rfl, rfl⟩ ?_
      rintro _ _ ⟨rfl, rfl⟩
      have hpl := hk.pl
      have hwb := wdS_bound (foldB s.user) (l := w.sp) (m := w.su) hs
      have hsl := hk.sl
      have sP := whole1 bcl_len bcl_ok hk.p
      have uP := whole1 ncl_len ncl_ok hk.s
      have ub1 := small16 (n := 0 + w.sp.length) (by have := hk.pl; have := hk.sl; clear hE fin finNo finPay hkP hkD; omega)
      have ub2 := small16 (n := 0 + w.sp.length + 1) (by have := hk.pl; have := hk.sl; clear hE fin finNo finPay hkP hkD; omega)
      have vb1 := small8 (n := 0 + w.su.length) (by have := hk.pl; have := hk.sl; clear hE fin finNo finPay hkP hkD; omega)
      have vb2 := small8 (n := 0 + w.su.length + 1) (by have := hk.pl; have := hk.sl; clear hE fin finNo finPay hkP hkD; omega)
      have unil : RowG bcl 1 [] 0 0 [] := RowG.nilS
      have vnil : RowG ncl 1 [] 0 0 [] := RowG.nilS
      have hg6 := good_six k1 h6
      have hw := wrapSub hg6.2.2.1 hg6.2.2.2 hwb.1 hwb.2 (Nat.le_trans (Nat.le_of_eq hsl) hpl)
      refine And.intro rfl (And.intro rfl ?_)
      refine Exists.intro _ (And.intro hw ?_)
      refine And.intro (fun k8 => ?_) (fun k8 => ?_)
      · exact finNo _ zs2 o2 c2 _ _ _ _ _ he (.inr (.inl ⟨h6, of_decide_eq_true k8⟩)) hlR.symm hr3
      refine And.intro rfl (And.intro rfl (And.intro rfl ?_))
      refine And.intro ⟨⟨Nat.zero_le _, by simp, rfl⟩, sP, ub1⟩ ?_
      intro zs3 o3 c3 hz3
      have hs1 := RowG.app unil rfl rfl hk.p.2.2 hz3.1 hz3.2.1 hz3.2.2
      refine And.intro rfl ?_
      refine VCall.mk [7] (s_ref_Fold h hc s.user (Nat.le_trans h2 (by decide))) ⟨rfl, rfl, rfl⟩ ?_
      rintro _ _ ⟨rfl, rfl⟩
      refine And.intro ⟨⟨hz3.1, hz3.2.1, rfl⟩, ⟨rfl, rfl⟩, ub2⟩ ?_
      intro zs4 o4 c4 hz4
      have hs2 : RowG bcl 1 zs4 o4 c4 (w.sp ++ [foldB s.user]) := RowG.snoc (x := foldB s.user) hs1 (by simp) hz4.1 hz4.2.1 hz4.2.2
      refine And.intro ?e ?f
      case e =>
        refine And.intro rfl (And.intro rfl (And.intro rfl ?_))
        refine And.intro ?e1 ?e2
        case e1 =>
          refine And.intro ⟨⟨Nat.zero_le _, by simp, rfl⟩, uP, vb1⟩ ?_
          intro zs5 o5 c5 hz5
          have hs3 := RowG.app vnil rfl rfl hk.s.2.2 hz5.1 hz5.2.1 hz5.2.2
          refine And.intro rfl ?_
          refine And.intro ⟨⟨hz5.1, hz5.2.1, rfl⟩, ⟨rfl, rfl⟩, vb2⟩ ?_
          intro zs6 o6 c6 hz6
          have hs4 : RowG ncl 1 zs6 o6 c6 (w.su ++ [s.amount]) := RowG.snoc (x := s.amount) hs3 (by simp) hz6.1 hz6.2.1 hz6.2.2
          exact finPay _ _ zs2 zs4 zs6 o2 c2 o4 c4 o6 c6 _ _ _ _ _ _ _ _ _ _ _ rfl rfl (of_decide_eq_false k8) hr3 hs2 hs4 he
        case e2 =>
          refine And.intro rfl (And.intro rfl ?_)
          refine And.intro ⟨⟨Nat.zero_le _, by simp, rfl⟩, uP, vb1⟩ ?_
          intro zs5 o5 c5 hz5
          have hs3 := RowG.app vnil rfl rfl hk.s.2.2 hz5.1 hz5.2.1 hz5.2.2
          refine And.intro ⟨⟨hz5.1, hz5.2.1, rfl⟩, ⟨rfl, rfl⟩, vb2⟩ ?_
          intro zs6 o6 c6 hz6
          have hs4 : RowG ncl 1 zs6 o6 c6 (w.su ++ [s.amount]) := RowG.snoc (x := s.amount) hs3 (by simp) hz6.1 hz6.2.1 hz6.2.2
          exact finPay _ _ zs2 zs4 zs6 o2 c2 o4 c4 o6 c6 _ _ _ _ _ _ _ _ _ _ _ rfl rfl (of_decide_eq_false k8) hr3 hs2 hs4 he
      case f =>
        refine And.intro rfl (And.intro rfl ?_)
        refine And.intro rfl (And.intro rfl ?_)
        refine And.intro ⟨⟨Nat.zero_le _, by simp, rfl⟩, uP, vb1⟩ ?_
        intro zs5 o5 c5 hz5
        have hs3 := RowG.app vnil rfl rfl hk.s.2.2 hz5.1 hz5.2.1 hz5.2.2
        refine And.intro ⟨⟨hz5.1, hz5.2.1, rfl⟩, ⟨rfl, rfl⟩, vb2⟩ ?_
        intro zs6 o6 c6 hz6
        have hs4 : RowG ncl 1 zs6 o6 c6 (w.su ++ [s.amount]) := RowG.snoc (x := s.amount) hs3 (by simp) hz6.1 hz6.2.1 hz6.2.2
        exact finPay _ _ zs2 zs4 zs6 o2 c2 o4 c4 o6 c6 _ _ _ _ _ _ _ _ _ _ _ rfl rfl (of_decide_eq_false k8) hr3 hs2 hs4 he
    case d =>
      refine And.intro rfl (And.intro rfl ?_)
      refine And.intro ⟨⟨Nat.zero_le _, by simp, rfl⟩, dP, hb1⟩ ?_
      intro zs1 o1 c1 hz1
      have hr1 := RowG.app nil0 rfl rfl hP hz1.1 hz1.2.1 hz1.2.2
      refine And.intro ⟨⟨hz1.1, hz1.2.1, rfl⟩, ⟨rfl, rfl⟩, hb2⟩ ?_
      intro zs2 o2 c2 hz2
      have hr2 := RowG.snoc (x := s) hr1 (by simp) hz2.1 hz2.2.1 hz2.2.2
      refine And.intro (fun k7 => absurd (of_decide_eq_true k7) (fun k => absurd (k.symm.trans h6) (by decide))) (fun k7 => ?_)
      refine And.intro (fun k7 => ?_) (fun k7 => absurd h6 (of_decide_eq_false k7))
      have hr3 : RowG stcl 19 zs2 o2 c2 (w.R ++ [s]) := hr2
      have hE := s_withdrawn h hc (w.did s) { q with r := ⟨zs2, o2, c2⟩ } (hkD zs2 o2 c2 hr3) hs s.user (Nat.le_trans h2 (by decide))
      simp only [hoR, RH.did, hlR] at hE
      refine VCall.mk [0, 1, 12, 3, 4, 5, 6, 7] hE ⟨rfl, rfl, rfl⟩ ?_
      rintro _ _ ⟨rfl, rfl⟩
      have hpl := hk.pl
      have hwb := wdS_bound (foldB s.user) (l := w.sp) (m := w.su) hs
      have hsl := hk.sl
      have sP := whole1 bcl_len bcl_ok hk.p
      have uP := whole1 ncl_len ncl_ok hk.s
      have ub1 := small16 (n := 0 + w.sp.length) (by have := hk.pl; have := hk.sl; clear hE fin finNo finPay hkP hkD; omega)
      have ub2 := small16 (n := 0 + w.sp.length + 1) (by have := hk.pl; have := hk.sl; clear hE fin finNo finPay hkP hkD; omega)
      have vb1 := small8 (n := 0 + w.su.length) (by have := hk.pl; have := hk.sl; clear hE fin finNo finPay hkP hkD; omega)
      have vb2 := small8 (n := 0 + w.su.length + 1) (by have := hk.pl; have := hk.sl; clear hE fin finNo finPay hkP hkD; omega)
      have unil : RowG bcl 1 [] 0 0 [] := RowG.nilS
      have vnil : RowG ncl 1 [] 0 0 [] := RowG.nilS
      have hg6 := good_six k1 h6
      have hw := wrapSub hg6.2.2.1 hg6.2.2.2 hwb.1 hwb.2 (Nat.le_trans (Nat.le_of_eq hsl) hpl)
      refine And.intro rfl (And.intro rfl ?_)
      refine Exists.intro _ (And.intro hw ?_)
      refine And.intro (fun k8 => ?_) (fun k8 => ?_)
      · exact finNo _ zs2 o2 c2 _ _ _ _ _ he (.inr (.inl ⟨h6, of_decide_eq_true k8⟩)) hlR.symm hr3
      refine And.intro rfl (And.intro rfl (And.intro rfl ?_))
      refine And.intro ⟨⟨Nat.zero_le _, by simp, rfl⟩, sP, ub1⟩ ?_
      intro zs3 o3 c3 hz3
      have hs1 := RowG.app unil rfl rfl hk.p.2.2 hz3.1 hz3.2.1 hz3.2.2
      refine And.intro rfl ?_
      refine VCall.mk [7] (s_ref_Fold h hc s.user (Nat.le_trans h2 (by decide))) ⟨rfl, rfl, rfl⟩ ?_
      rintro _ _ ⟨rfl, rfl⟩
      refine And.intro ⟨⟨hz3.1, hz3.2.1, rfl⟩, ⟨rfl, rfl⟩, ub2⟩ ?_
      intro zs4 o4 c4 hz4
      have hs2 : RowG bcl 1 zs4 o4 c4 (w.sp ++ [foldB s.user]) := RowG.snoc (x := foldB s.user) hs1 (by simp) hz4.1 hz4.2.1 hz4.2.2
      refine And.intro ?e ?f
      case e =>
        refine And.intro rfl (And.intro rfl (And.intro rfl ?_))
        refine And.intro ?e1 ?e2
        case e1 =>
          refine And.intro ⟨⟨Nat.zero_le _, by simp, rfl⟩, uP, vb1⟩ ?_
          intro zs5 o5 c5 hz5
          have hs3 := RowG.app vnil rfl rfl hk.s.2.2 hz5.1 hz5.2.1 hz5.2.2
          refine And.intro rfl ?_
          refine And.intro ⟨⟨hz5.1, hz5.2.1, rfl⟩, ⟨rfl, rfl⟩, vb2⟩ ?_
          intro zs6 o6 c6 hz6
          have hs4 : RowG ncl 1 zs6 o6 c6 (w.su ++ [s.amount]) := RowG.snoc (x := s.amount) hs3 (by simp) hz6.1 hz6.2.1 hz6.2.2
          exact finPay _ _ zs2 zs4 zs6 o2 c2 o4 c4 o6 c6 _ _ _ _ _ _ _ _ _ _ _ rfl rfl (of_decide_eq_false k8) hr3 hs2 hs4 he
        case e2 =>
          refine And.intro rfl (And.intro rfl ?_)
          refine And.intro ⟨⟨Nat.zero_le _, by simp, rfl⟩, uP, vb1⟩ ?_
          intro zs5 o5 c5 hz5
          have hs3 := RowG.app vnil rfl rfl hk.s.2.2 hz5.1 hz5.2.1 hz5.2.2
          refine And.intro ⟨⟨hz5.1, hz5.2.1, rfl⟩, ⟨rfl, rfl⟩, vb2⟩ ?_
          intro zs6 o6 c6 hz6
          have hs4 : RowG ncl 1 zs6 o6 c6 (w.su ++ [s.amount]) := RowG.snoc (x := s.amount) hs3 (by simp) hz6.1 hz6.2.1 hz6.2.2
          exact finPay _ _ zs2 zs4 zs6 o2 c2 o4 c4 o6 c6 _ _ _ _ _ _ _ _ _ _ _ rfl rfl (of_decide_eq_false k8) hr3 hs2 hs4 he
      case f =>
        refine And.intro rfl (And.intro rfl ?_)
        refine And.intro rfl (And.intro rfl ?_)
        refine And.intro ⟨⟨Nat.zero_le _, by simp, rfl⟩, uP, vb1⟩ ?_
        intro zs5 o5 c5 hz5
        have hs3 := RowG.app vnil rfl rfl hk.s.2.2 hz5.1 hz5.2.1 hz5.2.2
        refine And.intro ⟨⟨hz5.1, hz5.2.1, rfl⟩, ⟨rfl, rfl⟩, vb2⟩ ?_
        intro zs6 o6 c6 hz6
        have hs4 : RowG ncl 1 zs6 o6 c6 (w.su ++ [s.amount]) := RowG.snoc (x := s.amount) hs3 (by simp) hz6.1 hz6.2.1 hz6.2.2
        exact finPay _ _ zs2 zs4 zs6 o2 c2 o4 c4 o6 c6 _ _ _ _ _ _ _ _ _ _ _ rfl rfl (of_decide_eq_false k8) hr3 hs2 hs4 he
  case b =>
    refine And.intro rfl (And.intro rfl ?_)
    refine And.intro rfl (And.intro rfl ?_)
    refine And.intro ⟨⟨Nat.zero_le _, by simp, rfl⟩, dP, hb1⟩ ?_
    intro zs1 o1 c1 hz1
    have hr1 := RowG.app nil0 rfl rfl hP hz1.1 hz1.2.1 hz1.2.2
    refine And.intro ⟨⟨hz1.1, hz1.2.1, rfl⟩, ⟨rfl, rfl⟩, hb2⟩ ?_
    intro zs2 o2 c2 hz2
    have hr2 := RowG.snoc (x := s) hr1 (by simp) hz2.1 hz2.2.1 hz2.2.2
    refine And.intro (fun k7 => absurd (of_decide_eq_true k7) (fun k => absurd (k.symm.trans h6) (by decide))) (fun k7 => ?_)
    refine And.intro (fun k7 => ?_) (fun k7 => absurd h6 (of_decide_eq_false k7))
    have hr3 : RowG stcl 19 zs2 o2 c2 (w.R ++ [s]) := hr2
    have hE := s_withdrawn h hc (w.did s) { q with r := ⟨zs2, o2, c2⟩ } (hkD zs2 o2 c2 hr3) hs s.user (Nat.le_trans h2 (by decide))
    simp only [hoR, RH.did, hlR] at hE
    refine VCall.mk [0, 1, 12, 3, 4, 5, 6, 7] hE ⟨rfl, rfl, rfl⟩ ?_
    rintro _ _ ⟨rfl, rfl⟩
    have hpl := hk.pl
    have hwb := wdS_bound (foldB s.user) (l := w.sp) (m := w.su) hs
    have hsl := hk.sl
    have sP := whole1 bcl_len bcl_ok hk.p
    have uP := whole1 ncl_len ncl_ok hk.s
    have ub1 := small16 (n := 0 + w.sp.length) (by have := hk.pl; have := hk.sl; clear hE fin finNo finPay hkP hkD; omega)
    have ub2 := small16 (n := 0 + w.sp.length + 1) (by have := hk.pl; have := hk.sl; clear hE fin finNo finPay hkP hkD; omega)
    have vb1 := small8 (n := 0 + w.su.length) (by have := hk.pl; have := hk.sl; clear hE fin finNo finPay hkP hkD; omega)
    have vb2 := small8 (n := 0 + w.su.length + 1) (by have := hk.pl; have := hk.sl; clear hE fin finNo finPay hkP hkD; omega)
    have unil : RowG bcl 1 [] 0 0 [] := RowG.nilS
    have vnil : RowG ncl 1 [] 0 0 [] := RowG.nilS
    have hg6 := good_six k1 h6
    have hw := wrapSub hg6.2.2.1 hg6.2.2.2 hwb.1 hwb.2 (Nat.le_trans (Nat.le_of_eq hsl) hpl)
    refine And.intro rfl (And.intro rfl ?_)
    refine Exists.intro _ (And.intro hw ?_)
    refine And.intro (fun k8 => ?_) (fun k8 => ?_)
    · exact finNo _ zs2 o2 c2 _ _ _ _ _ he (.inr (.inl ⟨h6, of_decide_eq_true k8⟩)) hlR.symm hr3
    refine And.intro rfl (And.intro rfl (And.intro rfl ?_))
    refine And.intro ⟨⟨Nat.zero_le _, by simp, rfl⟩, sP, ub1⟩ ?_
    intro zs3 o3 c3 hz3
    have hs1 := RowG.app unil rfl rfl hk.p.2.2 hz3.1 hz3.2.1 hz3.2.2
    refine And.intro rfl ?_
    refine VCall.mk [7] (s_ref_Fold h hc s.user (Nat.le_trans h2 (by decide))) ⟨rfl, rfl, rfl⟩ ?_
    rintro _ _ ⟨rfl, rfl⟩
    refine And.intro ⟨⟨hz3.1, hz3.2.1, rfl⟩, ⟨rfl, rfl⟩, ub2⟩ ?_
    intro zs4 o4 c4 hz4
    have hs2 : RowG bcl 1 zs4 o4 c4 (w.sp ++ [foldB s.user]) := RowG.snoc (x := foldB s.user) hs1 (by simp) hz4.1 hz4.2.1 hz4.2.2
    refine And.intro ?e ?f
    case e =>
      refine And.intro rfl (And.intro rfl (And.intro rfl ?_))
      refine And.intro ?e1 ?e2
      case e1 =>
        refine And.intro ⟨⟨Nat.zero_le _, by simp, rfl⟩, uP, vb1⟩ ?_
        intro zs5 o5 c5 hz5
        have hs3 := RowG.app vnil rfl rfl hk.s.2.2 hz5.1 hz5.2.1 hz5.2.2
        refine And.intro rfl ?_
        refine And.intro ⟨⟨hz5.1, hz5.2.1, rfl⟩, ⟨rfl, rfl⟩, vb2⟩ ?_
        intro zs6 o6 c6 hz6
        have hs4 : RowG ncl 1 zs6 o6 c6 (w.su ++ [s.amount]) := RowG.snoc (x := s.amount) hs3 (by simp) hz6.1 hz6.2.1 hz6.2.2
        exact finPay _ _ zs2 zs4 zs6 o2 c2 o4 c4 o6 c6 _ _ _ _ _ _ _ _ _ _ _ rfl rfl (of_decide_eq_false k8) hr3 hs2 hs4 he
      case e2 =>
        refine And.intro rfl (And.intro rfl ?_)
        refine And.intro ⟨⟨Nat.zero_le _, by simp, rfl⟩, uP, vb1⟩ ?_
        intro zs5 o5 c5 hz5
        have hs3 := RowG.app vnil rfl rfl hk.s.2.2 hz5.1 hz5.2.1 hz5.2.2
        refine And.intro ⟨⟨hz5.1, hz5.2.1, rfl⟩, ⟨rfl, rfl⟩, vb2⟩ ?_
        intro zs6 o6 c6 hz6
        have hs4 : RowG ncl 1 zs6 o6 c6 (w.su ++ [s.amount]) := RowG.snoc (x := s.amount) hs3 (by simp) hz6.1 hz6.2.1 hz6.2.2
        exact finPay _ _ zs2 zs4 zs6 o2 c2 o4 c4 o6 c6 _ _ _ _ _ _ _ _ _ _ _ rfl rfl (of_decide_eq_false k8) hr3 hs2 hs4 he
    case f =>
      refine And.intro rfl (And.intro rfl ?_)
      refine And.intro rfl (And.intro rfl ?_)
      refine And.intro ⟨⟨Nat.zero_le _, by simp, rfl⟩, uP, vb1⟩ ?_
      intro zs5 o5 c5 hz5
      have hs3 := RowG.app vnil rfl rfl hk.s.2.2 hz5.1 hz5.2.1 hz5.2.2
      refine And.intro ⟨⟨hz5.1, hz5.2.1, rfl⟩, ⟨rfl, rfl⟩, vb2⟩ ?_
      intro zs6 o6 c6 hz6
      have hs4 : RowG ncl 1 zs6 o6 c6 (w.su ++ [s.amount]) := RowG.snoc (x := s.amount) hs3 (by simp) hz6.1 hz6.2.1 hz6.2.2
      exact finPay _ _ zs2 zs4 zs6 o2 c2 o4 c4 o6 c6 _ _ _ _ _ _ _ _ _ _ _ rfl rfl (of_decide_eq_false k8) hr3 hs2 hs4 he
end Go.Proofs

namespace Go.Proofs
open Go Go.V Go.Lib
set_option maxRecDepth 100000
set_option linter.unusedVariables false

theorem wrapI {i n : Nat} (h : i < n) (hn : n ≤ 1000) : IntKind.i64.wrap ((i : Int) + 1) = ((i + 1 : Nat) : Int) := wrap64 (by omega)
theorem small168 {n : Nat} (h : n ≤ 1000) : (n + 1) * 168 ≤ 1099511627776 := by omega
theorem small56 {n : Nat} (h : n ≤ 5000) : n * 56 ≤ 1099511627776 := by omega
theorem lt5 {n : Nat} (h : n < 1000) : 0 + n ≤ 5000 := by omega
theorem lt5' {n : Nat} (h : n < 1000) : 0 + n + 1 ≤ 5000 := by omega
theorem good_kind {s : ST} (h : goodT s = true) : 1 ≤ s.kind ∧ s.kind ≤ 7 := by
  simp only [goodT, headT, Bool.and_eq_true, decide_eq_true_eq] at h; omega
theorem subLt {i n : Nat} (h : i < n) : n - (i + 1) < n - i := by omega
theorem outAt_k {l : List ST} {k : Nat} (h : k < l.length) : outAt l (k : Int) = ⟨l[k].rep, l[k].n, l[k].user, l[k].amount⟩ := by
  have e : l.getD (k : Int).toNat zeroT' = l[k] := by rw [Int.toNat_natCast, List.getD_eq_getElem?_getD, List.getElem?_eq_getElem h]; rfl
  rw [outAt, show decide ((0 : Int) ≤ (k : Int)) = true from decide_eq_true (Int.natCast_nonneg k), e]; rfl
set_option maxHeartbeats 4000000 in
theorem s_refDo7a (h : Nat → Option Obj) (hu : Uni h) (hc : CaseH h) (w : RH) (q : RQ) (hk : RK w q) (hn : w.R.length < 1000) (s : ST) (h1 : s.name.size ≤ 1000) (h2 : s.user.size ≤ 1000) (h7 : s.kind = 7) (o : OC) (hwin : winR w (s.ar, s.an) = some o) :
    Ctr Tryz.prog F_rostrumref24_House_Do [.ptr 0 0, .agg (stcells s)] (hoR w q ++ [.heap h]) (RDid h w q s) := by
  have hkD : ∀ zs o c, RowG stcl 19 zs o c (w.R ++ [s]) → RK (w.did s) { q with r := ⟨zs, o, c⟩ } := fun zs o c hr =>
    ⟨hk.l, hr, hk.u, hk.p, hk.s, hk.e, hk.ll, by show (w.R ++ [s]).length ≤ 1000; simp; omega, hk.ul, hk.pl, hk.sl, hk.el⟩
  have fin : ∀ (e : Int) (l : List SO), e ≠ 0 → refDE w s = e → VRet 8 (.tup [bv false, iv e]) (hoR w q ++ .heap h :: l) (RDid h w q s) := by
    intro e l he hb
    subst hb
    exact VRet.mk [0, 1, 2, 3, 4, 5, 6, 7] (.tup [bv false, iv (refDE w s)]) (hoR w q ++ [.heap h]) ⟨rfl, rfl, rfl⟩ (.bad he)
  have finNo : ∀ (n : Nat) (zs : List Value) (o c : Nat) (Z A B C : SO) (l : List SO), refDE w s = 0 → (s.kind = 5 ∧ regF w (foldB s.user) = true ∨ s.kind = 6 ∧ s.funds - wdS (foldB s.user) w.sp w.su < s.amount ∨ s.kind = 7 ∧ mayR w s = false) → n = (w.R ++ [s]).length → RowG stcl 19 zs o c (w.R ++ [s]) →
      VRet 8 (.tup [bv false, iv 0]) (hoRY n w.us.length w.sp.length w.su.length w.cl.length w { q with r := ⟨zs, o, c⟩ } q 12 3 4 5 6 ++ [.heap h, Z, A, B, C, .arr zs T_rostrumref24_Step] ++ l) (RDid h w q s) := by
    rintro _ zs o c Z A B C l he hw rfl hr
    exact VRet.mk [0, 1, 2, 3, 4, 5, 6, 7, 12] (.tup [bv false, iv 0]) (hoRX (w.did s) { q with r := ⟨zs, o, c⟩ } q 8 3 4 5 6 ++ [.heap h, .arr zs T_rostrumref24_Step]) ⟨rfl, rfl, rfl⟩ (.no ⟨zs, o, c⟩ he hw (hkD zs o c hr))
  refine i_rostrumref24_House_Do.spec follows ?_
  refine VCall.mk [7] (s_refGood h hu s h1 h2) ⟨rfl, rfl, rfl⟩ ?_
  rintro _ _ ⟨rfl, rfl⟩
  refine And.intro (fun k1 => ?_) (fun k1 => fin 1 _ (by decide) (by have k1 := nT k1; rw [refDE, k1]; rfl))
  have k1 := nF k1
  refine And.intro (fun k2 => fin 1 _ (by decide) (by rw [refDE, show decide (s.kind < 5) = true from k2]; simp)) (fun k2 => ?_)
  have k2 : decide (s.kind < 5) = false := k2
  refine VCall.mk [] (s_ref_Le s.seen w.v) ⟨rfl, rfl, rfl⟩ ?_
  rintro _ _ ⟨rfl, rfl⟩
  refine And.intro (fun k3 => ?_) (fun k3 => fin 8 _ (by decide) (by have k3 := nT k3; rw [refDE, k1, k2, k3]; rfl))
  have k3 := nF k3
  refine And.intro (fun k4 => fin 8 _ (by decide) (by rw [refDE, k1, k2, k3, show decide ((w.R.length : Int) < s.reds) = true from k4]; rfl)) (fun k4 => ?_)
  have he : refDE w s = 0 := by rw [refDE, k1, k2, k3, show decide ((w.R.length : Int) < s.reds) = false from k4]; rfl
  have hP : (q.r.xs.drop q.r.o).take (w.R.length * 19) = w.R.flatMap stcl := hk.r.2.2
  have dP : (List.take (w.R.length * 19) (List.drop q.r.o q.r.xs)).length = w.R.length * 19 ∧ cellsOK (List.take (w.R.length * 19) (List.drop q.r.o q.r.xs)) = true := by
    rw [hP]; exact ⟨fm_len stcl_len _, fm_ok stcl_ok _⟩
  have hb1 : (0 + w.R.length) * 168 ≤ 1099511627776 := by have := hk.rl; omega
  have hb2 : (0 + w.R.length + 1) * 168 ≤ 1099511627776 := by have := hk.rl; omega
  have nil0 : RowG stcl 19 [] 0 0 [] := RowG.nilS
  have hlR : (w.R ++ [s]).length = 0 + w.R.length + 1 := by simp
  refine And.intro ?a ?b
  case a =>
    refine And.intro rfl (And.intro rfl (And.intro rfl ?_))
    refine And.intro ?c ?d
    case c =>
      refine And.intro ⟨⟨Nat.zero_le _, by simp, rfl⟩, dP, hb1⟩ ?_
      intro zs1 o1 c1 hz1
      have hr1 := RowG.app nil0 rfl rfl hP hz1.1 hz1.2.1 hz1.2.2
      refine And.intro rfl ?_
      refine And.intro ⟨⟨hz1.1, hz1.2.1, rfl⟩, ⟨rfl, rfl⟩, hb2⟩ ?_
      intro zs2 o2 c2 hz2
      have hr2 := RowG.snoc (x := s) hr1 (by simp) hz2.1 hz2.2.1 hz2.2.2
      refine And.intro (fun k7 => absurd (of_decide_eq_true k7) (fun k => absurd (k.symm.trans h7) (by decide))) (fun k7 => ?_)
      refine And.intro (fun k7 => absurd (of_decide_eq_true k7) (fun k => absurd (k.symm.trans h7) (by decide))) (fun k7 => ?_)
      have hr3 : RowG stcl 19 zs2 o2 c2 (w.R ++ [s]) := hr2
      have hF := s_find (w.did s) { q with r := ⟨zs2, o2, c2⟩ } (hkD zs2 o2 c2 hr3) 1 (s.ar, s.an)
      have hW := s_refWinner (w.did s) { q with r := ⟨zs2, o2, c2⟩ } (hkD zs2 o2 c2 hr3) (s.ar, s.an)
      rw [show winR (w.did s) (s.ar, s.an) = _ from hwin] at hW
      simp only [hoR, RH.did, hlR] at hF hW
      refine VCall.mk [0, 1, 12, 3, 4, 5, 6] hF ⟨rfl, rfl, rfl⟩ ?_
      rintro _ _ ⟨rfl, rfl⟩
      refine VCall.mk [0, 1, 12, 3, 4, 5, 6] hW ⟨rfl, rfl, rfl⟩ ?_
      rintro _ _ ⟨rfl, rfl⟩
      have hmay : mayR w s = false := by rw [mayR, hwin]; simp
      refine And.intro (fun k8 => ?_) (fun k8 => ?_)
      · refine And.intro (fun k9 => absurd k9 (by decide)) (fun k9 => ?_)
        exact finNo _ zs2 o2 c2 _ _ _ _ _ he (.inr (.inr ⟨h7, hmay⟩)) hlR.symm hr3
      · exact finNo _ zs2 o2 c2 _ _ _ _ _ he (.inr (.inr ⟨h7, hmay⟩)) hlR.symm hr3
    case d =>
      refine And.intro rfl (And.intro rfl ?_)
      refine And.intro ⟨⟨Nat.zero_le _, by simp, rfl⟩, dP, hb1⟩ ?_
      intro zs1 o1 c1 hz1
      have hr1 := RowG.app nil0 rfl rfl hP hz1.1 hz1.2.1 hz1.2.2
      refine And.intro ⟨⟨hz1.1, hz1.2.1, rfl⟩, ⟨rfl, rfl⟩, hb2⟩ ?_
      intro zs2 o2 c2 hz2
      have hr2 := RowG.snoc (x := s) hr1 (by simp) hz2.1 hz2.2.1 hz2.2.2
      refine And.intro (fun k7 => absurd (of_decide_eq_true k7) (fun k => absurd (k.symm.trans h7) (by decide))) (fun k7 => ?_)
      refine And.intro (fun k7 => absurd (of_decide_eq_true k7) (fun k => absurd (k.symm.trans h7) (by decide))) (fun k7 => ?_)
      have hr3 : RowG stcl 19 zs2 o2 c2 (w.R ++ [s]) := hr2
      have hF := s_find (w.did s) { q with r := ⟨zs2, o2, c2⟩ } (hkD zs2 o2 c2 hr3) 1 (s.ar, s.an)
      have hW := s_refWinner (w.did s) { q with r := ⟨zs2, o2, c2⟩ } (hkD zs2 o2 c2 hr3) (s.ar, s.an)
      rw [show winR (w.did s) (s.ar, s.an) = _ from hwin] at hW
      simp only [hoR, RH.did, hlR] at hF hW
      refine VCall.mk [0, 1, 12, 3, 4, 5, 6] hF ⟨rfl, rfl, rfl⟩ ?_
      rintro _ _ ⟨rfl, rfl⟩
      refine VCall.mk [0, 1, 12, 3, 4, 5, 6] hW ⟨rfl, rfl, rfl⟩ ?_
      rintro _ _ ⟨rfl, rfl⟩
      have hmay : mayR w s = false := by rw [mayR, hwin]; simp
      refine And.intro (fun k8 => ?_) (fun k8 => ?_)
      · refine And.intro (fun k9 => absurd k9 (by decide)) (fun k9 => ?_)
        exact finNo _ zs2 o2 c2 _ _ _ _ _ he (.inr (.inr ⟨h7, hmay⟩)) hlR.symm hr3
      · exact finNo _ zs2 o2 c2 _ _ _ _ _ he (.inr (.inr ⟨h7, hmay⟩)) hlR.symm hr3
  case b =>
    refine And.intro rfl (And.intro rfl ?_)
    refine And.intro rfl (And.intro rfl ?_)
    refine And.intro ⟨⟨Nat.zero_le _, by simp, rfl⟩, dP, hb1⟩ ?_
    intro zs1 o1 c1 hz1
    have hr1 := RowG.app nil0 rfl rfl hP hz1.1 hz1.2.1 hz1.2.2
    refine And.intro ⟨⟨hz1.1, hz1.2.1, rfl⟩, ⟨rfl, rfl⟩, hb2⟩ ?_
    intro zs2 o2 c2 hz2
    have hr2 := RowG.snoc (x := s) hr1 (by simp) hz2.1 hz2.2.1 hz2.2.2
    refine And.intro (fun k7 => absurd (of_decide_eq_true k7) (fun k => absurd (k.symm.trans h7) (by decide))) (fun k7 => ?_)
    refine And.intro (fun k7 => absurd (of_decide_eq_true k7) (fun k => absurd (k.symm.trans h7) (by decide))) (fun k7 => ?_)
    have hr3 : RowG stcl 19 zs2 o2 c2 (w.R ++ [s]) := hr2
    have hF := s_find (w.did s) { q with r := ⟨zs2, o2, c2⟩ } (hkD zs2 o2 c2 hr3) 1 (s.ar, s.an)
    have hW := s_refWinner (w.did s) { q with r := ⟨zs2, o2, c2⟩ } (hkD zs2 o2 c2 hr3) (s.ar, s.an)
    rw [show winR (w.did s) (s.ar, s.an) = _ from hwin] at hW
    simp only [hoR, RH.did, hlR] at hF hW
    refine VCall.mk [0, 1, 12, 3, 4, 5, 6] hF ⟨rfl, rfl, rfl⟩ ?_
    rintro _ _ ⟨rfl, rfl⟩
    refine VCall.mk [0, 1, 12, 3, 4, 5, 6] hW ⟨rfl, rfl, rfl⟩ ?_
    rintro _ _ ⟨rfl, rfl⟩
    have hmay : mayR w s = false := by rw [mayR, hwin]; simp
    refine And.intro (fun k8 => ?_) (fun k8 => ?_)
    · refine And.intro (fun k9 => absurd k9 (by decide)) (fun k9 => ?_)
      exact finNo _ zs2 o2 c2 _ _ _ _ _ he (.inr (.inr ⟨h7, hmay⟩)) hlR.symm hr3
    · exact finNo _ zs2 o2 c2 _ _ _ _ _ he (.inr (.inr ⟨h7, hmay⟩)) hlR.symm hr3
set_option maxHeartbeats 4000000 in
theorem s_refDo7b (h : Nat → Option Obj) (hu : Uni h) (hc : CaseH h) (w : RH) (q : RQ) (hk : RK w q) (hn : w.R.length < 1000) (hn2 : w.cl.length < 1000) (s : ST) (h1 : s.name.size ≤ 1000) (h2 : s.user.size ≤ 1000) (hz : ∀ t, t ∈ w.L → t.user.size ≤ 100000000) (h7 : s.kind = 7) (hwin : winR w (s.ar, s.an) = none) :
    Ctr Tryz.prog F_rostrumref24_House_Do [.ptr 0 0, .agg (stcells s)] (hoR w q ++ [.heap h]) (RDid h w q s) := by
  have hkD : ∀ zs o c, RowG stcl 19 zs o c (w.R ++ [s]) → RK (w.did s) { q with r := ⟨zs, o, c⟩ } := fun zs o c hr =>
    ⟨hk.l, hr, hk.u, hk.p, hk.s, hk.e, hk.ll, by show (w.R ++ [s]).length ≤ 1000; simp; omega, hk.ul, hk.pl, hk.sl, hk.el⟩
  have hkO : ∀ zs o c, RowG stcl 19 zs o c (w.R ++ [s]) → ∀ zs2 o2 c2 b, RowG ecl 6 zs2 o2 c2 (w.cl ++ [((s.ar, s.an), outAt (liveR w s) b)]) → RK (w.over s b) { q with r := ⟨zs, o, c⟩, e := ⟨zs2, o2, c2⟩ } := fun zs o c hr zs2 o2 c2 b hp =>
    ⟨hk.l, hr, hk.u, hk.p, hk.s, hp, hk.ll, by show (w.R ++ [s]).length ≤ 1000; simp; omega, hk.ul, hk.pl, hk.sl, by show (w.cl ++ [((s.ar, s.an), outAt (liveR w s) b)]).length ≤ 1000; simp; omega⟩
  have finOver : ∀ (b : Int) (n : Nat) (zs xs : List Value) (o c o4 c4 : Nat) (Z A B C D E F : SO) (l : List SO), bestR (liveR w s) (liveR w s).length b → n = 0 + w.cl.length + 1 →
      RowG stcl 19 zs o c (w.R ++ [s]) → RowG ecl 6 xs o4 c4 (w.cl ++ [((s.ar, s.an), outAt (liveR w s) b)]) → refDE w s = 0 → mayR w s = true →
      VRet 8 (.tup [bv true, iv 0]) (hoRY (0 + w.R.length + 1) w.us.length w.sp.length w.su.length n w { q with r := ⟨zs, o, c⟩, e := ⟨xs, o4, c4⟩ } q 9 3 4 5 16 ++ [.heap h, Z, .arr zs T_rostrumref24_Step, A, B, C, D, E, F, .arr xs T_rostrumref24_outcome] ++ l) (RDid h w q s) := by
    intro b n zs xs o c o4 c4 Z A B C D E F l hb hn' hr hp he hmay
    have e1 : 0 + w.R.length + 1 = (w.did s).R.length := by show _ = (w.R ++ [s]).length; simp
    have e2 : n = (w.over s b).cl.length := by show _ = (w.cl ++ [((s.ar, s.an), outAt (liveR w s) b)]).length; simp [hn']
    subst e2
    rw [e1]
    exact VRet.mk [0, 1, 2, 3, 4, 5, 6, 7, 9, 16] (.tup [bv true, iv 0]) (hoRX (w.over s b) { q with r := ⟨zs, o, c⟩, e := ⟨xs, o4, c4⟩ } q 8 3 4 5 9 ++ [.heap h, .arr zs T_rostrumref24_Step, .arr xs T_rostrumref24_outcome]) ⟨rfl, rfl, rfl⟩
      (.over ⟨zs, o, c⟩ ⟨xs, o4, c4⟩ b he h7 hmay hb (hkO zs o c hr xs o4 c4 b hp))
  have fin : ∀ (e : Int) (l : List SO), e ≠ 0 → refDE w s = e → VRet 8 (.tup [bv false, iv e]) (hoR w q ++ .heap h :: l) (RDid h w q s) := by
    intro e l he hb
    subst hb
    exact VRet.mk [0, 1, 2, 3, 4, 5, 6, 7] (.tup [bv false, iv (refDE w s)]) (hoR w q ++ [.heap h]) ⟨rfl, rfl, rfl⟩ (.bad he)
  have finNo : ∀ (n : Nat) (zs : List Value) (o c : Nat) (Z A B C : SO) (l : List SO), refDE w s = 0 → (s.kind = 5 ∧ regF w (foldB s.user) = true ∨ s.kind = 6 ∧ s.funds - wdS (foldB s.user) w.sp w.su < s.amount ∨ s.kind = 7 ∧ mayR w s = false) → n = (w.R ++ [s]).length → RowG stcl 19 zs o c (w.R ++ [s]) →
      VRet 8 (.tup [bv false, iv 0]) (hoRY n w.us.length w.sp.length w.su.length w.cl.length w { q with r := ⟨zs, o, c⟩ } q 12 3 4 5 6 ++ [.heap h, Z, A, B, C, .arr zs T_rostrumref24_Step] ++ l) (RDid h w q s) := by
    rintro _ zs o c Z A B C l he hw rfl hr
    exact VRet.mk [0, 1, 2, 3, 4, 5, 6, 7, 12] (.tup [bv false, iv 0]) (hoRX (w.did s) { q with r := ⟨zs, o, c⟩ } q 8 3 4 5 6 ++ [.heap h, .arr zs T_rostrumref24_Step]) ⟨rfl, rfl, rfl⟩ (.no ⟨zs, o, c⟩ he hw (hkD zs o c hr))
  refine i_rostrumref24_House_Do.spec follows ?_
  refine VCall.mk [7] (s_refGood h hu s h1 h2) ⟨rfl, rfl, rfl⟩ ?_
  rintro _ _ ⟨rfl, rfl⟩
  refine And.intro (fun k1 => ?_) (fun k1 => fin 1 _ (by decide) (by have k1 := nT k1; rw [refDE, k1]; rfl))
  have k1 := nF k1
  refine And.intro (fun k2 => fin 1 _ (by decide) (by rw [refDE, show decide (s.kind < 5) = true from k2]; simp)) (fun k2 => ?_)
  have k2 : decide (s.kind < 5) = false := k2
  refine VCall.mk [] (s_ref_Le s.seen w.v) ⟨rfl, rfl, rfl⟩ ?_
  rintro _ _ ⟨rfl, rfl⟩
  refine And.intro (fun k3 => ?_) (fun k3 => fin 8 _ (by decide) (by have k3 := nT k3; rw [refDE, k1, k2, k3]; rfl))
  have k3 := nF k3
  refine And.intro (fun k4 => fin 8 _ (by decide) (by rw [refDE, k1, k2, k3, show decide ((w.R.length : Int) < s.reds) = true from k4]; rfl)) (fun k4 => ?_)
  have he : refDE w s = 0 := by rw [refDE, k1, k2, k3, show decide ((w.R.length : Int) < s.reds) = false from k4]; rfl
  have hP : (q.r.xs.drop q.r.o).take (w.R.length * 19) = w.R.flatMap stcl := hk.r.2.2
  have dP : (List.take (w.R.length * 19) (List.drop q.r.o q.r.xs)).length = w.R.length * 19 ∧ cellsOK (List.take (w.R.length * 19) (List.drop q.r.o q.r.xs)) = true := by
    rw [hP]; exact ⟨fm_len stcl_len _, fm_ok stcl_ok _⟩
  have hb1 : (0 + w.R.length) * 168 ≤ 1099511627776 := by have := hk.rl; omega
  have hb2 : (0 + w.R.length + 1) * 168 ≤ 1099511627776 := by have := hk.rl; omega
  have nil0 : RowG stcl 19 [] 0 0 [] := RowG.nilS
  have hlR : (w.R ++ [s]).length = 0 + w.R.length + 1 := by simp
  refine And.intro ?a ?b
  case a =>
    refine And.intro rfl (And.intro rfl (And.intro rfl ?_))
    refine And.intro ?c ?d
    case c =>
      refine And.intro ⟨⟨Nat.zero_le _, by simp, rfl⟩, dP, hb1⟩ ?_
      intro zs1 o1 c1 hz1
      have hr1 := RowG.app nil0 rfl rfl hP hz1.1 hz1.2.1 hz1.2.2
      refine And.intro rfl ?_
      refine And.intro ⟨⟨hz1.1, hz1.2.1, rfl⟩, ⟨rfl, rfl⟩, hb2⟩ ?_
      intro zs2 o2 c2 hz2
      have hr2 := RowG.snoc (x := s) hr1 (by simp) hz2.1 hz2.2.1 hz2.2.2
      refine And.intro (fun k7 => absurd (of_decide_eq_true k7) (fun k => absurd (k.symm.trans h7) (by decide))) (fun k7 => ?_)
      refine And.intro (fun k7 => absurd (of_decide_eq_true k7) (fun k => absurd (k.symm.trans h7) (by decide))) (fun k7 => ?_)
      have hr3 : RowG stcl 19 zs2 o2 c2 (w.R ++ [s]) := hr2
      have hF := s_find (w.did s) { q with r := ⟨zs2, o2, c2⟩ } (hkD zs2 o2 c2 hr3) 1 (s.ar, s.an)
      have hW := s_refWinner (w.did s) { q with r := ⟨zs2, o2, c2⟩ } (hkD zs2 o2 c2 hr3) (s.ar, s.an)
      rw [show winR (w.did s) (s.ar, s.an) = _ from hwin] at hW
      simp only [hoR, RH.did, hlR] at hF hW
      refine VCall.mk [0, 1, 12, 3, 4, 5, 6] hF ⟨rfl, rfl, rfl⟩ ?_
      rintro _ _ ⟨rfl, rfl⟩
      refine VCall.mk [0, 1, 12, 3, 4, 5, 6] hW ⟨rfl, rfl, rfl⟩ ?_
      rintro _ _ ⟨rfl, rfl⟩
      refine And.intro (fun k8 => ?_) (fun k8 => ?_)
      rotate_left 1
      · have k8 : (findR w 1 (s.ar, s.an)).isSome = false := nT k8
        have hmay : mayR w s = false := by rw [mayR, k8]; rfl
        exact finNo _ zs2 o2 c2 _ _ _ _ _ he (.inr (.inr ⟨h7, hmay⟩)) hlR.symm hr3
      have k8 : (findR w 1 (s.ar, s.an)).isSome = true := nF k8
      refine And.intro (fun _ => ?_) (fun k => absurd k (by decide))
      refine VCall.mk [] (s_ref_Has s.seen s.ar s.an) ⟨rfl, rfl, rfl⟩ ?_
      rintro _ _ ⟨rfl, rfl⟩
      refine And.intro (fun k9 => ?_) (fun k9 => ?_)
      · have k9 : has s.seen s.ar s.an = false := nT k9
        have hmay : mayR w s = false := by rw [mayR, k8, hwin, k9]; rfl
        exact finNo _ zs2 o2 c2 _ _ _ _ _ he (.inr (.inr ⟨h7, hmay⟩)) hlR.symm hr3
      have k9 : has s.seen s.ar s.an = true := nF k9
      have hmay : mayR w s = true := by rw [mayR, k8, hwin, k9]; rfl
      have hB := s_refBids (w.did s) { q with r := ⟨zs2, o2, c2⟩ } (hkD zs2 o2 c2 hr3) (s.ar, s.an) s.seen
      simp only [hoR, RH.did, hlR] at hB
      refine VCall.mk [0, 1, 12, 3, 4, 5, 6] hB ⟨rfl, rfl, rfl⟩ ?_
      rintro _ _ ⟨bs, bo, bc, rfl, rfl, hrb⟩
      have hrb : RowG stcl 19 bs bo bc (bidsR w (s.ar, s.an) s.seen) := hrb
      have hBl : (bidsR w (s.ar, s.an) s.seen).length ≤ 1000 := Nat.le_trans (List.length_filter_le _ _) hk.ll
      have hBm : ∀ t, t ∈ bidsR w (s.ar, s.an) s.seen → t.user.size ≤ 100000000 := fun t ht => hz t (List.mem_filter.1 ht).1
      refine VLoop.nil T_rostrumref24_Step [14] [] ⟨rfl, rfl⟩ ?_
      refine VLoop.mk RBX (fun x => [(0, .ptr 0 0), (3, .ptr 8 0), (14, .sl 11 x.o x.D.length x.c), (15, .sl 10 bo (bidsR w (s.ar, s.an) s.seen).length bc), (16, iv x.i)]) (fun x => hoRY (0 + w.R.length + 1) w.us.length w.sp.length w.su.length w.cl.length w { q with r := ⟨zs2, o2, c2⟩ } q 9 3 4 5 6 ++ [.heap h, .cells (stcells s) T_rostrumref24_Step, .arr zs2 T_rostrumref24_Step, .arr bs T_rostrumref24_Step, .arr x.xs T_rostrumref24_Step])
        (fun x => x.i ≤ (bidsR w (s.ar, s.an) s.seen).length ∧ x.D = ((bidsR w (s.ar, s.an) s.seen).take x.i).filter (fun t => regF w (foldB t.user)) ∧ RowG stcl 19 x.xs x.o x.c x.D) (fun x => (bidsR w (s.ar, s.an) s.seen).length - x.i) ⟨[], 0, 0, [], 0⟩ [0, 1, 2, 3, 4, 5, 6, 7, 8, 12, 15, 16]
        ⟨⟨Nat.zero_le _, rfl, RowG.nilS⟩, rfl, rfl, rfl⟩ ?_
      rintro ⟨xs, o, c, D, i⟩ ⟨hi, hD, hr⟩ g
      simp only at hi hD hr
      refine And.intro (fun t1 => ?_) (fun t1 => ?_)
      · have t1 : (i : Int) < ((bidsR w (s.ar, s.an) s.seen).length : Nat) := of_decide_eq_true t1
        have hil : i < (bidsR w (s.ar, s.an) s.seen).length := Int.ofNat_lt.1 t1
        have hwi : IntKind.i64.wrap ((i : Int) + 1) = ((i + 1 : Nat) : Int) := wrapI hil hBl
        have hx := hrb.cut (fun _ => rfl) hil
        have hx12 := hrb.at (fun _ => rfl) hil (j := 12) (by decide)
        have hft := filterTake (p := fun t => regF w (foldB t.user)) hil
        have hni : (0 : Int) ≤ (i : Int) ∧ (i : Int) < ((bidsR w (s.ar, s.an) s.seen).length : Nat) ∧ bo + (bidsR w (s.ar, s.an) s.seen).length * 19 ≤ bs.length := ⟨Int.natCast_nonneg i, t1, RowG.room hrb⟩
        have hE := s_Registered h hc (w.did s) { q with r := ⟨zs2, o2, c2⟩ } (hkD zs2 o2 c2 hr3) _ (hBm _ (List.getElem_mem hil))
        simp only [hoR, RH.did, hlR] at hE
        refine And.intro hni (Exists.intro _ (And.intro (by rw [Int.toNat_natCast]; exact hx12) ?_))
        refine VCall.mk [0, 1, 9, 3, 4, 5, 6, 7] hE ⟨rfl, rfl, rfl⟩ ?_
        rintro _ _ ⟨rfl, rfl⟩
        refine And.intro (fun t2 => ?_) (fun t2 => ?_)
        · have t2 : regF w (foldB (bidsR w (s.ar, s.an) s.seen)[i].user) = true := t2
          have hDl : D.length ≤ 1000 := by rw [hD]; exact Nat.le_trans (List.length_filter_le _ _) (Nat.le_trans (List.length_take_le' _ _) hBl)
          refine And.intro hni (Exists.intro _ (And.intro (by rw [Int.toNat_natCast]; exact hx) ?_))
          refine And.intro ⟨⟨hr.1, hr.2.1, rfl⟩, ⟨rfl, rfl⟩, small168 hDl⟩ ?_
          intro xs' o' c' hz
          refine Exists.intro _ (And.intro hwi ?_)
          refine Exists.intro ⟨xs', o', c', D ++ [(bidsR w (s.ar, s.an) s.seen)[i]], i + 1⟩ (Exists.intro [0, 1, 2, 3, 4, 5, 6, 7, 8, 9, 10, 13] (And.intro ⟨⟨hil, by simp only; rw [hft, t2, hD]; rfl, RowG.snoc hr rfl hz.1 hz.2.1 hz.2.2⟩, subLt hil⟩ ⟨?_, rfl, rfl⟩))
          simp only [List.length_append, List.length_cons, List.length_nil]; rfl
        · have t2 : regF w (foldB (bidsR w (s.ar, s.an) s.seen)[i].user) = false := t2
          refine Exists.intro _ (And.intro hwi ?_)
          exact Exists.intro ⟨xs, o, c, D, i + 1⟩ (Exists.intro [0, 1, 2, 3, 4, 5, 6, 7, 8, 9, 10, 11] (And.intro ⟨⟨hil, by simp only; rw [hft, t2, hD]; simp, hr⟩, subLt hil⟩ ⟨rfl, rfl, rfl⟩))
      · have hil : i = (bidsR w (s.ar, s.an) s.seen).length := Nat.le_antisymm hi (Int.ofNat_le.1 (Int.not_lt.1 (of_decide_eq_false t1)))
        rw [hil, List.take_length] at hD
        have hD : D = liveR w s := hD
        subst hD
        have eP := whole1 ecl_len ecl_ok hk.e
        have eb1 := small56 (n := 0 + w.cl.length) (lt5 hn2)
        have eb2 := small56 (n := 0 + w.cl.length + 1) (lt5' hn2)
        have enil : RowG ecl 6 [] 0 0 [] := RowG.nilS
        have hLl : (liveR w s).length ≤ 1000 := Nat.le_trans (List.length_filter_le _ _) hBl
        refine VCall.mk [11] (s_refBest (liveR w s) xs o c hr hLl) ⟨rfl, rfl, rfl⟩ ?_
        rintro _ _ ⟨b, rfl, hb, rfl⟩
        refine And.intro (fun t2 => ?_) (fun t2 => ?_)
        · rcases hb with ⟨rfl, _⟩ | ⟨k, rfl, hkl, hk2, hbest⟩
          · exact absurd (of_decide_eq_true t2) (by decide)
          have hb : bestR (liveR w s) (liveR w s).length (k : Int) := .inr ⟨k, rfl, hkl, hk2, hbest⟩
          have hx := hr.cut (fun _ => rfl) hkl
          have hx1 := cut_sub hx 1 2 (by decide)
          have hx12 := hr.at (fun _ => rfl) hkl (j := 12) (by decide)
          have hx17 := hr.at (fun _ => rfl) hkl (j := 17) (by decide)
          have hni : (0 : Int) ≤ (k : Int) ∧ (k : Int) < ((liveR w s).length : Nat) ∧ o + (liveR w s).length * 19 ≤ xs.length := ⟨Int.natCast_nonneg k, Int.ofNat_lt.2 hkl, RowG.room hr⟩
          refine And.intro hni (Exists.intro _ (And.intro (by rw [Int.toNat_natCast]; exact hx1) ?_))
          refine And.intro hni (Exists.intro _ (And.intro (by rw [Int.toNat_natCast]; exact hx12) ?_))
          refine And.intro hni (Exists.intro _ (And.intro (by rw [Int.toNat_natCast]; exact hx17) ?_))
          refine And.intro (And.intro hni rfl) ?_
          refine And.intro (Exists.intro _ (And.intro (by rw [Int.toNat_natCast]; exact hx12) rfl)) ?_
          refine And.intro (And.intro hni rfl) ?_
          refine And.intro (Exists.intro _ (And.intro (by rw [Int.toNat_natCast]; exact hx17) rfl)) ?_
          refine And.intro (And.intro hni rfl) ?_
          refine And.intro (Exists.intro _ (And.intro (by rw [Int.toNat_natCast]; exact hx17) rfl)) ?_
          have hoc := outAt_k hkl
          have hxo : List.take (1 * 6) (List.drop 0 [Value.int .i64 s.ar, Value.int .i64 s.an, Value.int .i64 (liveR w s)[k].rep, Value.int .i64 (liveR w s)[k].n, Value.string (liveR w s)[k].user, Value.int .i64 (liveR w s)[k].amount]) = [((s.ar, s.an), outAt (liveR w s) (k : Int))].flatMap ecl := by rw [hoc]; rfl
          refine And.intro ?e ?f
          case e =>
            refine And.intro rfl (And.intro rfl (And.intro rfl ?_))
            refine And.intro ?e1 ?e2
            case e1 =>
              refine And.intro ⟨⟨Nat.zero_le _, by simp, rfl⟩, eP, eb1⟩ ?_
              intro zs3 o3 c3 hz3
              have hs1 := RowG.app enil rfl rfl hk.e.2.2 hz3.1 hz3.2.1 hz3.2.2
              refine And.intro rfl ?_
              refine And.intro ⟨⟨hz3.1, hz3.2.1, rfl⟩, ⟨rfl, rfl⟩, eb2⟩ ?_
              intro zs4 o4 c4 hz4
              have hs2 := RowG.app hs1 (by simp) rfl hxo hz4.1 hz4.2.1 hz4.2.2
              exact finOver _ _ zs2 zs4 o2 c2 o4 c4 _ _ _ _ _ _ _ _ hb rfl hr3 hs2 he hmay
            case e2 =>
              refine And.intro rfl (And.intro rfl ?_)
              refine And.intro ⟨⟨Nat.zero_le _, by simp, rfl⟩, eP, eb1⟩ ?_
              intro zs3 o3 c3 hz3
              have hs1 := RowG.app enil rfl rfl hk.e.2.2 hz3.1 hz3.2.1 hz3.2.2
              refine And.intro ⟨⟨hz3.1, hz3.2.1, rfl⟩, ⟨rfl, rfl⟩, eb2⟩ ?_
              intro zs4 o4 c4 hz4
              have hs2 := RowG.app hs1 (by simp) rfl hxo hz4.1 hz4.2.1 hz4.2.2
              exact finOver _ _ zs2 zs4 o2 c2 o4 c4 _ _ _ _ _ _ _ _ hb rfl hr3 hs2 he hmay
          case f =>
            refine And.intro rfl (And.intro rfl ?_)
            refine And.intro rfl (And.intro rfl ?_)
            refine And.intro ⟨⟨Nat.zero_le _, by simp, rfl⟩, eP, eb1⟩ ?_
            intro zs3 o3 c3 hz3
            have hs1 := RowG.app enil rfl rfl hk.e.2.2 hz3.1 hz3.2.1 hz3.2.2
            refine And.intro ⟨⟨hz3.1, hz3.2.1, rfl⟩, ⟨rfl, rfl⟩, eb2⟩ ?_
            intro zs4 o4 c4 hz4
            have hs2 := RowG.app hs1 (by simp) rfl hxo hz4.1 hz4.2.1 hz4.2.2
            exact finOver _ _ zs2 zs4 o2 c2 o4 c4 _ _ _ _ _ _ _ _ hb rfl hr3 hs2 he hmay
        · have hxo : List.take (1 * 6) (List.drop 0 [Value.int .i64 s.ar, Value.int .i64 s.an, Value.int .i64 0, Value.int .i64 0, Value.string es, Value.int .i64 0]) = [((s.ar, s.an), outAt (liveR w s) b)].flatMap ecl := by
            rw [outAt, show decide ((0 : Int) ≤ b) = false from t2]; rfl
          refine And.intro ?e ?f
          case e =>
            refine And.intro rfl (And.intro rfl (And.intro rfl ?_))
            refine And.intro ?e1 ?e2
            case e1 =>
              refine And.intro ⟨⟨Nat.zero_le _, by simp, rfl⟩, eP, eb1⟩ ?_
              intro zs3 o3 c3 hz3
              have hs1 := RowG.app enil rfl rfl hk.e.2.2 hz3.1 hz3.2.1 hz3.2.2
              refine And.intro rfl ?_
              refine And.intro ⟨⟨hz3.1, hz3.2.1, rfl⟩, ⟨rfl, rfl⟩, eb2⟩ ?_
              intro zs4 o4 c4 hz4
              have hs2 := RowG.app hs1 (by simp) rfl hxo hz4.1 hz4.2.1 hz4.2.2
              exact finOver _ _ zs2 zs4 o2 c2 o4 c4 _ _ _ _ _ _ _ _ hb rfl hr3 hs2 he hmay
            case e2 =>
              refine And.intro rfl (And.intro rfl ?_)
              refine And.intro ⟨⟨Nat.zero_le _, by simp, rfl⟩, eP, eb1⟩ ?_
              intro zs3 o3 c3 hz3
              have hs1 := RowG.app enil rfl rfl hk.e.2.2 hz3.1 hz3.2.1 hz3.2.2
              refine And.intro ⟨⟨hz3.1, hz3.2.1, rfl⟩, ⟨rfl, rfl⟩, eb2⟩ ?_
              intro zs4 o4 c4 hz4
              have hs2 := RowG.app hs1 (by simp) rfl hxo hz4.1 hz4.2.1 hz4.2.2
              exact finOver _ _ zs2 zs4 o2 c2 o4 c4 _ _ _ _ _ _ _ _ hb rfl hr3 hs2 he hmay
          case f =>
            refine And.intro rfl (And.intro rfl ?_)
            refine And.intro rfl (And.intro rfl ?_)
            refine And.intro ⟨⟨Nat.zero_le _, by simp, rfl⟩, eP, eb1⟩ ?_
            intro zs3 o3 c3 hz3
            have hs1 := RowG.app enil rfl rfl hk.e.2.2 hz3.1 hz3.2.1 hz3.2.2
            refine And.intro ⟨⟨hz3.1, hz3.2.1, rfl⟩, ⟨rfl, rfl⟩, eb2⟩ ?_
            intro zs4 o4 c4 hz4
            have hs2 := RowG.app hs1 (by simp) rfl hxo hz4.1 hz4.2.1 hz4.2.2
            exact finOver _ _ zs2 zs4 o2 c2 o4 c4 _ _ _ _ _ _ _ _ hb rfl hr3 hs2 he hmay
    case d =>
      refine And.intro rfl (And.intro rfl ?_)
      refine And.intro ⟨⟨Nat.zero_le _, by simp, rfl⟩, dP, hb1⟩ ?_
      intro zs1 o1 c1 hz1
      have hr1 := RowG.app nil0 rfl rfl hP hz1.1 hz1.2.1 hz1.2.2
      refine And.intro ⟨⟨hz1.1, hz1.2.1, rfl⟩, ⟨rfl, rfl⟩, hb2⟩ ?_
      intro zs2 o2 c2 hz2
      have hr2 := RowG.snoc (x := s) hr1 (by simp) hz2.1 hz2.2.1 hz2.2.2
      refine And.intro (fun k7 => absurd (of_decide_eq_true k7) (fun k => absurd (k.symm.trans h7) (by decide))) (fun k7 => ?_)
      refine And.intro (fun k7 => absurd (of_decide_eq_true k7) (fun k => absurd (k.symm.trans h7) (by decide))) (fun k7 => ?_)
      have hr3 : RowG stcl 19 zs2 o2 c2 (w.R ++ [s]) := hr2
      have hF := s_find (w.did s) { q with r := ⟨zs2, o2, c2⟩ } (hkD zs2 o2 c2 hr3) 1 (s.ar, s.an)
      have hW := s_refWinner (w.did s) { q with r := ⟨zs2, o2, c2⟩ } (hkD zs2 o2 c2 hr3) (s.ar, s.an)
      rw [show winR (w.did s) (s.ar, s.an) = _ from hwin] at hW
      simp only [hoR, RH.did, hlR] at hF hW
      refine VCall.mk [0, 1, 12, 3, 4, 5, 6] hF ⟨rfl, rfl, rfl⟩ ?_
      rintro _ _ ⟨rfl, rfl⟩
      refine VCall.mk [0, 1, 12, 3, 4, 5, 6] hW ⟨rfl, rfl, rfl⟩ ?_
      rintro _ _ ⟨rfl, rfl⟩
      refine And.intro (fun k8 => ?_) (fun k8 => ?_)
      rotate_left 1
      · have k8 : (findR w 1 (s.ar, s.an)).isSome = false := nT k8
        have hmay : mayR w s = false := by rw [mayR, k8]; rfl
        exact finNo _ zs2 o2 c2 _ _ _ _ _ he (.inr (.inr ⟨h7, hmay⟩)) hlR.symm hr3
      have k8 : (findR w 1 (s.ar, s.an)).isSome = true := nF k8
      refine And.intro (fun _ => ?_) (fun k => absurd k (by decide))
      refine VCall.mk [] (s_ref_Has s.seen s.ar s.an) ⟨rfl, rfl, rfl⟩ ?_
      rintro _ _ ⟨rfl, rfl⟩
      refine And.intro (fun k9 => ?_) (fun k9 => ?_)
      · have k9 : has s.seen s.ar s.an = false := nT k9
        have hmay : mayR w s = false := by rw [mayR, k8, hwin, k9]; rfl
        exact finNo _ zs2 o2 c2 _ _ _ _ _ he (.inr (.inr ⟨h7, hmay⟩)) hlR.symm hr3
      have k9 : has s.seen s.ar s.an = true := nF k9
      have hmay : mayR w s = true := by rw [mayR, k8, hwin, k9]; rfl
      have hB := s_refBids (w.did s) { q with r := ⟨zs2, o2, c2⟩ } (hkD zs2 o2 c2 hr3) (s.ar, s.an) s.seen
      simp only [hoR, RH.did, hlR] at hB
      refine VCall.mk [0, 1, 12, 3, 4, 5, 6] hB ⟨rfl, rfl, rfl⟩ ?_
      rintro _ _ ⟨bs, bo, bc, rfl, rfl, hrb⟩
      have hrb : RowG stcl 19 bs bo bc (bidsR w (s.ar, s.an) s.seen) := hrb
      have hBl : (bidsR w (s.ar, s.an) s.seen).length ≤ 1000 := Nat.le_trans (List.length_filter_le _ _) hk.ll
      have hBm : ∀ t, t ∈ bidsR w (s.ar, s.an) s.seen → t.user.size ≤ 100000000 := fun t ht => hz t (List.mem_filter.1 ht).1
      refine VLoop.nil T_rostrumref24_Step [14] [] ⟨rfl, rfl⟩ ?_
      refine VLoop.mk RBX (fun x => [(0, .ptr 0 0), (3, .ptr 8 0), (14, .sl 11 x.o x.D.length x.c), (15, .sl 10 bo (bidsR w (s.ar, s.an) s.seen).length bc), (16, iv x.i)]) (fun x => hoRY (0 + w.R.length + 1) w.us.length w.sp.length w.su.length w.cl.length w { q with r := ⟨zs2, o2, c2⟩ } q 9 3 4 5 6 ++ [.heap h, .cells (stcells s) T_rostrumref24_Step, .arr zs2 T_rostrumref24_Step, .arr bs T_rostrumref24_Step, .arr x.xs T_rostrumref24_Step])
        (fun x => x.i ≤ (bidsR w (s.ar, s.an) s.seen).length ∧ x.D = ((bidsR w (s.ar, s.an) s.seen).take x.i).filter (fun t => regF w (foldB t.user)) ∧ RowG stcl 19 x.xs x.o x.c x.D) (fun x => (bidsR w (s.ar, s.an) s.seen).length - x.i) ⟨[], 0, 0, [], 0⟩ [0, 1, 2, 3, 4, 5, 6, 7, 8, 12, 15, 16]
        ⟨⟨Nat.zero_le _, rfl, RowG.nilS⟩, rfl, rfl, rfl⟩ ?_
      rintro ⟨xs, o, c, D, i⟩ ⟨hi, hD, hr⟩ g
      simp only at hi hD hr
      refine And.intro (fun t1 => ?_) (fun t1 => ?_)
      · have t1 : (i : Int) < ((bidsR w (s.ar, s.an) s.seen).length : Nat) := of_decide_eq_true t1
        have hil : i < (bidsR w (s.ar, s.an) s.seen).length := Int.ofNat_lt.1 t1
        have hwi : IntKind.i64.wrap ((i : Int) + 1) = ((i + 1 : Nat) : Int) := wrapI hil hBl
        have hx := hrb.cut (fun _ => rfl) hil
        have hx12 := hrb.at (fun _ => rfl) hil (j := 12) (by decide)
        have hft := filterTake (p := fun t => regF w (foldB t.user)) hil
        have hni : (0 : Int) ≤ (i : Int) ∧ (i : Int) < ((bidsR w (s.ar, s.an) s.seen).length : Nat) ∧ bo + (bidsR w (s.ar, s.an) s.seen).length * 19 ≤ bs.length := ⟨Int.natCast_nonneg i, t1, RowG.room hrb⟩
        have hE := s_Registered h hc (w.did s) { q with r := ⟨zs2, o2, c2⟩ } (hkD zs2 o2 c2 hr3) _ (hBm _ (List.getElem_mem hil))
        simp only [hoR, RH.did, hlR] at hE
        refine And.intro hni (Exists.intro _ (And.intro (by rw [Int.toNat_natCast]; exact hx12) ?_))
        refine VCall.mk [0, 1, 9, 3, 4, 5, 6, 7] hE ⟨rfl, rfl, rfl⟩ ?_
        rintro _ _ ⟨rfl, rfl⟩
        refine And.intro (fun t2 => ?_) (fun t2 => ?_)
        · have t2 : regF w (foldB (bidsR w (s.ar, s.an) s.seen)[i].user) = true := t2
          have hDl : D.length ≤ 1000 := by rw [hD]; exact Nat.le_trans (List.length_filter_le _ _) (Nat.le_trans (List.length_take_le' _ _) hBl)
          refine And.intro hni (Exists.intro _ (And.intro (by rw [Int.toNat_natCast]; exact hx) ?_))
          refine And.intro ⟨⟨hr.1, hr.2.1, rfl⟩, ⟨rfl, rfl⟩, small168 hDl⟩ ?_
          intro xs' o' c' hz
          refine Exists.intro _ (And.intro hwi ?_)
          refine Exists.intro ⟨xs', o', c', D ++ [(bidsR w (s.ar, s.an) s.seen)[i]], i + 1⟩ (Exists.intro [0, 1, 2, 3, 4, 5, 6, 7, 8, 9, 10, 13] (And.intro ⟨⟨hil, by simp only; rw [hft, t2, hD]; rfl, RowG.snoc hr rfl hz.1 hz.2.1 hz.2.2⟩, subLt hil⟩ ⟨?_, rfl, rfl⟩))
          simp only [List.length_append, List.length_cons, List.length_nil]; rfl
        · have t2 : regF w (foldB (bidsR w (s.ar, s.an) s.seen)[i].user) = false := t2
          refine Exists.intro _ (And.intro hwi ?_)
          exact Exists.intro ⟨xs, o, c, D, i + 1⟩ (Exists.intro [0, 1, 2, 3, 4, 5, 6, 7, 8, 9, 10, 11] (And.intro ⟨⟨hil, by simp only; rw [hft, t2, hD]; simp, hr⟩, subLt hil⟩ ⟨rfl, rfl, rfl⟩))
      · have hil : i = (bidsR w (s.ar, s.an) s.seen).length := Nat.le_antisymm hi (Int.ofNat_le.1 (Int.not_lt.1 (of_decide_eq_false t1)))
        rw [hil, List.take_length] at hD
        have hD : D = liveR w s := hD
        subst hD
        have eP := whole1 ecl_len ecl_ok hk.e
        have eb1 := small56 (n := 0 + w.cl.length) (lt5 hn2)
        have eb2 := small56 (n := 0 + w.cl.length + 1) (lt5' hn2)
        have enil : RowG ecl 6 [] 0 0 [] := RowG.nilS
        have hLl : (liveR w s).length ≤ 1000 := Nat.le_trans (List.length_filter_le _ _) hBl
        refine VCall.mk [11] (s_refBest (liveR w s) xs o c hr hLl) ⟨rfl, rfl, rfl⟩ ?_
        rintro _ _ ⟨b, rfl, hb, rfl⟩
        refine And.intro (fun t2 => ?_) (fun t2 => ?_)
        · rcases hb with ⟨rfl, _⟩ | ⟨k, rfl, hkl, hk2, hbest⟩
          · exact absurd (of_decide_eq_true t2) (by decide)
          have hb : bestR (liveR w s) (liveR w s).length (k : Int) := .inr ⟨k, rfl, hkl, hk2, hbest⟩
          have hx := hr.cut (fun _ => rfl) hkl
          have hx1 := cut_sub hx 1 2 (by decide)
          have hx12 := hr.at (fun _ => rfl) hkl (j := 12) (by decide)
          have hx17 := hr.at (fun _ => rfl) hkl (j := 17) (by decide)
          have hni : (0 : Int) ≤ (k : Int) ∧ (k : Int) < ((liveR w s).length : Nat) ∧ o + (liveR w s).length * 19 ≤ xs.length := ⟨Int.natCast_nonneg k, Int.ofNat_lt.2 hkl, RowG.room hr⟩
          refine And.intro hni (Exists.intro _ (And.intro (by rw [Int.toNat_natCast]; exact hx1) ?_))
          refine And.intro hni (Exists.intro _ (And.intro (by rw [Int.toNat_natCast]; exact hx12) ?_))
          refine And.intro hni (Exists.intro _ (And.intro (by rw [Int.toNat_natCast]; exact hx17) ?_))
          refine And.intro (And.intro hni rfl) ?_
          refine And.intro (Exists.intro _ (And.intro (by rw [Int.toNat_natCast]; exact hx12) rfl)) ?_
          refine And.intro (And.intro hni rfl) ?_
          refine And.intro (Exists.intro _ (And.intro (by rw [Int.toNat_natCast]; exact hx17) rfl)) ?_
          refine And.intro (And.intro hni rfl) ?_
          refine And.intro (Exists.intro _ (And.intro (by rw [Int.toNat_natCast]; exact hx17) rfl)) ?_
          have hoc := outAt_k hkl
          have hxo : List.take (1 * 6) (List.drop 0 [Value.int .i64 s.ar, Value.int .i64 s.an, Value.int .i64 (liveR w s)[k].rep, Value.int .i64 (liveR w s)[k].n, Value.string (liveR w s)[k].user, Value.int .i64 (liveR w s)[k].amount]) = [((s.ar, s.an), outAt (liveR w s) (k : Int))].flatMap ecl := by rw [hoc]; rfl
          refine And.intro ?e ?f
          case e =>
            refine And.intro rfl (And.intro rfl (And.intro rfl ?_))
            refine And.intro ?e1 ?e2
            case e1 =>
              refine And.intro ⟨⟨Nat.zero_le _, by simp, rfl⟩, eP, eb1⟩ ?_
              intro zs3 o3 c3 hz3
              have hs1 := RowG.app enil rfl rfl hk.e.2.2 hz3.1 hz3.2.1 hz3.2.2
              refine And.intro rfl ?_
              refine And.intro ⟨⟨hz3.1, hz3.2.1, rfl⟩, ⟨rfl, rfl⟩, eb2⟩ ?_
              intro zs4 o4 c4 hz4
              have hs2 := RowG.app hs1 (by simp) rfl hxo hz4.1 hz4.2.1 hz4.2.2
              exact finOver _ _ zs2 zs4 o2 c2 o4 c4 _ _ _ _ _ _ _ _ hb rfl hr3 hs2 he hmay
            case e2 =>
              refine And.intro rfl (And.intro rfl ?_)
              refine And.intro ⟨⟨Nat.zero_le _, by simp, rfl⟩, eP, eb1⟩ ?_
              intro zs3 o3 c3 hz3
              have hs1 := RowG.app enil rfl rfl hk.e.2.2 hz3.1 hz3.2.1 hz3.2.2
              refine And.intro ⟨⟨hz3.1, hz3.2.1, rfl⟩, ⟨rfl, rfl⟩, eb2⟩ ?_
              intro zs4 o4 c4 hz4
              have hs2 := RowG.app hs1 (by simp) rfl hxo hz4.1 hz4.2.1 hz4.2.2
              exact finOver _ _ zs2 zs4 o2 c2 o4 c4 _ _ _ _ _ _ _ _ hb rfl hr3 hs2 he hmay
          case f =>
            refine And.intro rfl (And.intro rfl ?_)
            refine And.intro rfl (And.intro rfl ?_)
            refine And.intro ⟨⟨Nat.zero_le _, by simp, rfl⟩, eP, eb1⟩ ?_
            intro zs3 o3 c3 hz3
            have hs1 := RowG.app enil rfl rfl hk.e.2.2 hz3.1 hz3.2.1 hz3.2.2
            refine And.intro ⟨⟨hz3.1, hz3.2.1, rfl⟩, ⟨rfl, rfl⟩, eb2⟩ ?_
            intro zs4 o4 c4 hz4
            have hs2 := RowG.app hs1 (by simp) rfl hxo hz4.1 hz4.2.1 hz4.2.2
            exact finOver _ _ zs2 zs4 o2 c2 o4 c4 _ _ _ _ _ _ _ _ hb rfl hr3 hs2 he hmay
        · have hxo : List.take (1 * 6) (List.drop 0 [Value.int .i64 s.ar, Value.int .i64 s.an, Value.int .i64 0, Value.int .i64 0, Value.string es, Value.int .i64 0]) = [((s.ar, s.an), outAt (liveR w s) b)].flatMap ecl := by
            rw [outAt, show decide ((0 : Int) ≤ b) = false from t2]; rfl
          refine And.intro ?e ?f
          case e =>
            refine And.intro rfl (And.intro rfl (And.intro rfl ?_))
            refine And.intro ?e1 ?e2
            case e1 =>
              refine And.intro ⟨⟨Nat.zero_le _, by simp, rfl⟩, eP, eb1⟩ ?_
              intro zs3 o3 c3 hz3
              have hs1 := RowG.app enil rfl rfl hk.e.2.2 hz3.1 hz3.2.1 hz3.2.2
              refine And.intro rfl ?_
              refine And.intro ⟨⟨hz3.1, hz3.2.1, rfl⟩, ⟨rfl, rfl⟩, eb2⟩ ?_
              intro zs4 o4 c4 hz4
              have hs2 := RowG.app hs1 (by simp) rfl hxo hz4.1 hz4.2.1 hz4.2.2
              exact finOver _ _ zs2 zs4 o2 c2 o4 c4 _ _ _ _ _ _ _ _ hb rfl hr3 hs2 he hmay
            case e2 =>
              refine And.intro rfl (And.intro rfl ?_)
              refine And.intro ⟨⟨Nat.zero_le _, by simp, rfl⟩, eP, eb1⟩ ?_
              intro zs3 o3 c3 hz3
              have hs1 := RowG.app enil rfl rfl hk.e.2.2 hz3.1 hz3.2.1 hz3.2.2
              refine And.intro ⟨⟨hz3.1, hz3.2.1, rfl⟩, ⟨rfl, rfl⟩, eb2⟩ ?_
              intro zs4 o4 c4 hz4
              have hs2 := RowG.app hs1 (by simp) rfl hxo hz4.1 hz4.2.1 hz4.2.2
              exact finOver _ _ zs2 zs4 o2 c2 o4 c4 _ _ _ _ _ _ _ _ hb rfl hr3 hs2 he hmay
          case f =>
            refine And.intro rfl (And.intro rfl ?_)
            refine And.intro rfl (And.intro rfl ?_)
            refine And.intro ⟨⟨Nat.zero_le _, by simp, rfl⟩, eP, eb1⟩ ?_
            intro zs3 o3 c3 hz3
            have hs1 := RowG.app enil rfl rfl hk.e.2.2 hz3.1 hz3.2.1 hz3.2.2
            refine And.intro ⟨⟨hz3.1, hz3.2.1, rfl⟩, ⟨rfl, rfl⟩, eb2⟩ ?_
            intro zs4 o4 c4 hz4
            have hs2 := RowG.app hs1 (by simp) rfl hxo hz4.1 hz4.2.1 hz4.2.2
            exact finOver _ _ zs2 zs4 o2 c2 o4 c4 _ _ _ _ _ _ _ _ hb rfl hr3 hs2 he hmay
  case b =>
    refine And.intro rfl (And.intro rfl ?_)
    refine And.intro rfl (And.intro rfl ?_)
    refine And.intro ⟨⟨Nat.zero_le _, by simp, rfl⟩, dP, hb1⟩ ?_
    intro zs1 o1 c1 hz1
    have hr1 := RowG.app nil0 rfl rfl hP hz1.1 hz1.2.1 hz1.2.2
    refine And.intro ⟨⟨hz1.1, hz1.2.1, rfl⟩, ⟨rfl, rfl⟩, hb2⟩ ?_
    intro zs2 o2 c2 hz2
    have hr2 := RowG.snoc (x := s) hr1 (by simp) hz2.1 hz2.2.1 hz2.2.2
    refine And.intro (fun k7 => absurd (of_decide_eq_true k7) (fun k => absurd (k.symm.trans h7) (by decide))) (fun k7 => ?_)
    refine And.intro (fun k7 => absurd (of_decide_eq_true k7) (fun k => absurd (k.symm.trans h7) (by decide))) (fun k7 => ?_)
    have hr3 : RowG stcl 19 zs2 o2 c2 (w.R ++ [s]) := hr2
    have hF := s_find (w.did s) { q with r := ⟨zs2, o2, c2⟩ } (hkD zs2 o2 c2 hr3) 1 (s.ar, s.an)
    have hW := s_refWinner (w.did s) { q with r := ⟨zs2, o2, c2⟩ } (hkD zs2 o2 c2 hr3) (s.ar, s.an)
    rw [show winR (w.did s) (s.ar, s.an) = _ from hwin] at hW
    simp only [hoR, RH.did, hlR] at hF hW
    refine VCall.mk [0, 1, 12, 3, 4, 5, 6] hF ⟨rfl, rfl, rfl⟩ ?_
    rintro _ _ ⟨rfl, rfl⟩
    refine VCall.mk [0, 1, 12, 3, 4, 5, 6] hW ⟨rfl, rfl, rfl⟩ ?_
    rintro _ _ ⟨rfl, rfl⟩
    refine And.intro (fun k8 => ?_) (fun k8 => ?_)
    rotate_left 1
    · have k8 : (findR w 1 (s.ar, s.an)).isSome = false := nT k8
      have hmay : mayR w s = false := by rw [mayR, k8]; rfl
      exact finNo _ zs2 o2 c2 _ _ _ _ _ he (.inr (.inr ⟨h7, hmay⟩)) hlR.symm hr3
    have k8 : (findR w 1 (s.ar, s.an)).isSome = true := nF k8
    refine And.intro (fun _ => ?_) (fun k => absurd k (by decide))
    refine VCall.mk [] (s_ref_Has s.seen s.ar s.an) ⟨rfl, rfl, rfl⟩ ?_
    rintro _ _ ⟨rfl, rfl⟩
    refine And.intro (fun k9 => ?_) (fun k9 => ?_)
    · have k9 : has s.seen s.ar s.an = false := nT k9
      have hmay : mayR w s = false := by rw [mayR, k8, hwin, k9]; rfl
      exact finNo _ zs2 o2 c2 _ _ _ _ _ he (.inr (.inr ⟨h7, hmay⟩)) hlR.symm hr3
    have k9 : has s.seen s.ar s.an = true := nF k9
    have hmay : mayR w s = true := by rw [mayR, k8, hwin, k9]; rfl
    have hB := s_refBids (w.did s) { q with r := ⟨zs2, o2, c2⟩ } (hkD zs2 o2 c2 hr3) (s.ar, s.an) s.seen
    simp only [hoR, RH.did, hlR] at hB
    refine VCall.mk [0, 1, 12, 3, 4, 5, 6] hB ⟨rfl, rfl, rfl⟩ ?_
    rintro _ _ ⟨bs, bo, bc, rfl, rfl, hrb⟩
    have hrb : RowG stcl 19 bs bo bc (bidsR w (s.ar, s.an) s.seen) := hrb
    have hBl : (bidsR w (s.ar, s.an) s.seen).length ≤ 1000 := Nat.le_trans (List.length_filter_le _ _) hk.ll
    have hBm : ∀ t, t ∈ bidsR w (s.ar, s.an) s.seen → t.user.size ≤ 100000000 := fun t ht => hz t (List.mem_filter.1 ht).1
    refine VLoop.nil T_rostrumref24_Step [14] [] ⟨rfl, rfl⟩ ?_
    refine VLoop.mk RBX (fun x => [(0, .ptr 0 0), (3, .ptr 8 0), (14, .sl 11 x.o x.D.length x.c), (15, .sl 10 bo (bidsR w (s.ar, s.an) s.seen).length bc), (16, iv x.i)]) (fun x => hoRY (0 + w.R.length + 1) w.us.length w.sp.length w.su.length w.cl.length w { q with r := ⟨zs2, o2, c2⟩ } q 9 3 4 5 6 ++ [.heap h, .cells (stcells s) T_rostrumref24_Step, .arr zs2 T_rostrumref24_Step, .arr bs T_rostrumref24_Step, .arr x.xs T_rostrumref24_Step])
      (fun x => x.i ≤ (bidsR w (s.ar, s.an) s.seen).length ∧ x.D = ((bidsR w (s.ar, s.an) s.seen).take x.i).filter (fun t => regF w (foldB t.user)) ∧ RowG stcl 19 x.xs x.o x.c x.D) (fun x => (bidsR w (s.ar, s.an) s.seen).length - x.i) ⟨[], 0, 0, [], 0⟩ [0, 1, 2, 3, 4, 5, 6, 7, 8, 12, 15, 16]
      ⟨⟨Nat.zero_le _, rfl, RowG.nilS⟩, rfl, rfl, rfl⟩ ?_
    rintro ⟨xs, o, c, D, i⟩ ⟨hi, hD, hr⟩ g
    simp only at hi hD hr
    refine And.intro (fun t1 => ?_) (fun t1 => ?_)
    · have t1 : (i : Int) < ((bidsR w (s.ar, s.an) s.seen).length : Nat) := of_decide_eq_true t1
      have hil : i < (bidsR w (s.ar, s.an) s.seen).length := Int.ofNat_lt.1 t1
      have hwi : IntKind.i64.wrap ((i : Int) + 1) = ((i + 1 : Nat) : Int) := wrapI hil hBl
      have hx := hrb.cut (fun _ => rfl) hil
      have hx12 := hrb.at (fun _ => rfl) hil (j := 12) (by decide)
      have hft := filterTake (p := fun t => regF w (foldB t.user)) hil
      have hni : (0 : Int) ≤ (i : Int) ∧ (i : Int) < ((bidsR w (s.ar, s.an) s.seen).length : Nat) ∧ bo + (bidsR w (s.ar, s.an) s.seen).length * 19 ≤ bs.length := ⟨Int.natCast_nonneg i, t1, RowG.room hrb⟩
      have hE := s_Registered h hc (w.did s) { q with r := ⟨zs2, o2, c2⟩ } (hkD zs2 o2 c2 hr3) _ (hBm _ (List.getElem_mem hil))
      simp only [hoR, RH.did, hlR] at hE
      refine And.intro hni (Exists.intro _ (And.intro (by rw [Int.toNat_natCast]; exact hx12) ?_))
      refine VCall.mk [0, 1, 9, 3, 4, 5, 6, 7] hE ⟨rfl, rfl, rfl⟩ ?_
      rintro _ _ ⟨rfl, rfl⟩
      refine And.intro (fun t2 => ?_) (fun t2 => ?_)
      · have t2 : regF w (foldB (bidsR w (s.ar, s.an) s.seen)[i].user) = true := t2
        have hDl : D.length ≤ 1000 := by rw [hD]; exact Nat.le_trans (List.length_filter_le _ _) (Nat.le_trans (List.length_take_le' _ _) hBl)
        refine And.intro hni (Exists.intro _ (And.intro (by rw [Int.toNat_natCast]; exact hx) ?_))
        refine And.intro ⟨⟨hr.1, hr.2.1, rfl⟩, ⟨rfl, rfl⟩, small168 hDl⟩ ?_
        intro xs' o' c' hz
        refine Exists.intro _ (And.intro hwi ?_)
        refine Exists.intro ⟨xs', o', c', D ++ [(bidsR w (s.ar, s.an) s.seen)[i]], i + 1⟩ (Exists.intro [0, 1, 2, 3, 4, 5, 6, 7, 8, 9, 10, 13] (And.intro ⟨⟨hil, by simp only; rw [hft, t2, hD]; rfl, RowG.snoc hr rfl hz.1 hz.2.1 hz.2.2⟩, subLt hil⟩ ⟨?_, rfl, rfl⟩))
        simp only [List.length_append, List.length_cons, List.length_nil]; rfl
      · have t2 : regF w (foldB (bidsR w (s.ar, s.an) s.seen)[i].user) = false := t2
        refine Exists.intro _ (And.intro hwi ?_)
        exact Exists.intro ⟨xs, o, c, D, i + 1⟩ (Exists.intro [0, 1, 2, 3, 4, 5, 6, 7, 8, 9, 10, 11] (And.intro ⟨⟨hil, by simp only; rw [hft, t2, hD]; simp, hr⟩, subLt hil⟩ ⟨rfl, rfl, rfl⟩))
    · have hil : i = (bidsR w (s.ar, s.an) s.seen).length := Nat.le_antisymm hi (Int.ofNat_le.1 (Int.not_lt.1 (of_decide_eq_false t1)))
      rw [hil, List.take_length] at hD
      have hD : D = liveR w s := hD
      subst hD
      have eP := whole1 ecl_len ecl_ok hk.e
      have eb1 := small56 (n := 0 + w.cl.length) (lt5 hn2)
      have eb2 := small56 (n := 0 + w.cl.length + 1) (lt5' hn2)
      have enil : RowG ecl 6 [] 0 0 [] := RowG.nilS
      have hLl : (liveR w s).length ≤ 1000 := Nat.le_trans (List.length_filter_le _ _) hBl
      refine VCall.mk [11] (s_refBest (liveR w s) xs o c hr hLl) ⟨rfl, rfl, rfl⟩ ?_
      rintro _ _ ⟨b, rfl, hb, rfl⟩
      refine And.intro (fun t2 => ?_) (fun t2 => ?_)
      · rcases hb with ⟨rfl, _⟩ | ⟨k, rfl, hkl, hk2, hbest⟩
        · exact absurd (of_decide_eq_true t2) (by decide)
        have hb : bestR (liveR w s) (liveR w s).length (k : Int) := .inr ⟨k, rfl, hkl, hk2, hbest⟩
        have hx := hr.cut (fun _ => rfl) hkl
        have hx1 := cut_sub hx 1 2 (by decide)
        have hx12 := hr.at (fun _ => rfl) hkl (j := 12) (by decide)
        have hx17 := hr.at (fun _ => rfl) hkl (j := 17) (by decide)
        have hni : (0 : Int) ≤ (k : Int) ∧ (k : Int) < ((liveR w s).length : Nat) ∧ o + (liveR w s).length * 19 ≤ xs.length := ⟨Int.natCast_nonneg k, Int.ofNat_lt.2 hkl, RowG.room hr⟩
        refine And.intro hni (Exists.intro _ (And.intro (by rw [Int.toNat_natCast]; exact hx1) ?_))
        refine And.intro hni (Exists.intro _ (And.intro (by rw [Int.toNat_natCast]; exact hx12) ?_))
        refine And.intro hni (Exists.intro _ (And.intro (by rw [Int.toNat_natCast]; exact hx17) ?_))
        refine And.intro (And.intro hni rfl) ?_
        refine And.intro (Exists.intro _ (And.intro (by rw [Int.toNat_natCast]; exact hx12) rfl)) ?_
        refine And.intro (And.intro hni rfl) ?_
        refine And.intro (Exists.intro _ (And.intro (by rw [Int.toNat_natCast]; exact hx17) rfl)) ?_
        refine And.intro (And.intro hni rfl) ?_
        refine And.intro (Exists.intro _ (And.intro (by rw [Int.toNat_natCast]; exact hx17) rfl)) ?_
        have hoc := outAt_k hkl
        have hxo : List.take (1 * 6) (List.drop 0 [Value.int .i64 s.ar, Value.int .i64 s.an, Value.int .i64 (liveR w s)[k].rep, Value.int .i64 (liveR w s)[k].n, Value.string (liveR w s)[k].user, Value.int .i64 (liveR w s)[k].amount]) = [((s.ar, s.an), outAt (liveR w s) (k : Int))].flatMap ecl := by rw [hoc]; rfl
        refine And.intro ?e ?f
        case e =>
          refine And.intro rfl (And.intro rfl (And.intro rfl ?_))
          refine And.intro ?e1 ?e2
          case e1 =>
            refine And.intro ⟨⟨Nat.zero_le _, by simp, rfl⟩, eP, eb1⟩ ?_
            intro zs3 o3 c3 hz3
            have hs1 := RowG.app enil rfl rfl hk.e.2.2 hz3.1 hz3.2.1 hz3.2.2
            refine And.intro rfl ?_
            refine And.intro ⟨⟨hz3.1, hz3.2.1, rfl⟩, ⟨rfl, rfl⟩, eb2⟩ ?_
            intro zs4 o4 c4 hz4
            have hs2 := RowG.app hs1 (by simp) rfl hxo hz4.1 hz4.2.1 hz4.2.2
            exact finOver _ _ zs2 zs4 o2 c2 o4 c4 _ _ _ _ _ _ _ _ hb rfl hr3 hs2 he hmay
          case e2 =>
            refine And.intro rfl (And.intro rfl ?_)
            refine And.intro ⟨⟨Nat.zero_le _, by simp, rfl⟩, eP, eb1⟩ ?_
            intro zs3 o3 c3 hz3
            have hs1 := RowG.app enil rfl rfl hk.e.2.2 hz3.1 hz3.2.1 hz3.2.2
            refine And.intro ⟨⟨hz3.1, hz3.2.1, rfl⟩, ⟨rfl, rfl⟩, eb2⟩ ?_
            intro zs4 o4 c4 hz4
            have hs2 := RowG.app hs1 (by simp) rfl hxo hz4.1 hz4.2.1 hz4.2.2
            exact finOver _ _ zs2 zs4 o2 c2 o4 c4 _ _ _ _ _ _ _ _ hb rfl hr3 hs2 he hmay
        case f =>
          refine And.intro rfl (And.intro rfl ?_)
          refine And.intro rfl (And.intro rfl ?_)
          refine And.intro ⟨⟨Nat.zero_le _, by simp, rfl⟩, eP, eb1⟩ ?_
          intro zs3 o3 c3 hz3
          have hs1 := RowG.app enil rfl rfl hk.e.2.2 hz3.1 hz3.2.1 hz3.2.2
          refine And.intro ⟨⟨hz3.1, hz3.2.1, rfl⟩, ⟨rfl, rfl⟩, eb2⟩ ?_
          intro zs4 o4 c4 hz4
          have hs2 := RowG.app hs1 (by simp) rfl hxo hz4.1 hz4.2.1 hz4.2.2
          exact finOver _ _ zs2 zs4 o2 c2 o4 c4 _ _ _ _ _ _ _ _ hb rfl hr3 hs2 he hmay
      · have hxo : List.take (1 * 6) (List.drop 0 [Value.int .i64 s.ar, Value.int .i64 s.an, Value.int .i64 0, Value.int .i64 0, Value.string es, Value.int .i64 0]) = [((s.ar, s.an), outAt (liveR w s) b)].flatMap ecl := by
          rw [outAt, show decide ((0 : Int) ≤ b) = false from t2]; rfl
        refine And.intro ?e ?f
        case e =>
          refine And.intro rfl (And.intro rfl (And.intro rfl ?_))
          refine And.intro ?e1 ?e2
          case e1 =>
            refine And.intro ⟨⟨Nat.zero_le _, by simp, rfl⟩, eP, eb1⟩ ?_
            intro zs3 o3 c3 hz3
            have hs1 := RowG.app enil rfl rfl hk.e.2.2 hz3.1 hz3.2.1 hz3.2.2
            refine And.intro rfl ?_
            refine And.intro ⟨⟨hz3.1, hz3.2.1, rfl⟩, ⟨rfl, rfl⟩, eb2⟩ ?_
            intro zs4 o4 c4 hz4
            have hs2 := RowG.app hs1 (by simp) rfl hxo hz4.1 hz4.2.1 hz4.2.2
            exact finOver _ _ zs2 zs4 o2 c2 o4 c4 _ _ _ _ _ _ _ _ hb rfl hr3 hs2 he hmay
          case e2 =>
            refine And.intro rfl (And.intro rfl ?_)
            refine And.intro ⟨⟨Nat.zero_le _, by simp, rfl⟩, eP, eb1⟩ ?_
            intro zs3 o3 c3 hz3
            have hs1 := RowG.app enil rfl rfl hk.e.2.2 hz3.1 hz3.2.1 hz3.2.2
            refine And.intro ⟨⟨hz3.1, hz3.2.1, rfl⟩, ⟨rfl, rfl⟩, eb2⟩ ?_
            intro zs4 o4 c4 hz4
            have hs2 := RowG.app hs1 (by simp) rfl hxo hz4.1 hz4.2.1 hz4.2.2
            exact finOver _ _ zs2 zs4 o2 c2 o4 c4 _ _ _ _ _ _ _ _ hb rfl hr3 hs2 he hmay
        case f =>
          refine And.intro rfl (And.intro rfl ?_)
          refine And.intro rfl (And.intro rfl ?_)
          refine And.intro ⟨⟨Nat.zero_le _, by simp, rfl⟩, eP, eb1⟩ ?_
          intro zs3 o3 c3 hz3
          have hs1 := RowG.app enil rfl rfl hk.e.2.2 hz3.1 hz3.2.1 hz3.2.2
          refine And.intro ⟨⟨hz3.1, hz3.2.1, rfl⟩, ⟨rfl, rfl⟩, eb2⟩ ?_
          intro zs4 o4 c4 hz4
          have hs2 := RowG.app hs1 (by simp) rfl hxo hz4.1 hz4.2.1 hz4.2.2
          exact finOver _ _ zs2 zs4 o2 c2 o4 c4 _ _ _ _ _ _ _ _ hb rfl hr3 hs2 he hmay
structure RHB (w : RH) : Prop where
  su : ∀ n, n ∈ w.su → 0 ≤ n ∧ n ≤ 1000000000
  lz : ∀ t, t ∈ w.L → t.user.size ≤ 100000000
theorem s_refDo (h : Nat → Option Obj) (hu : Uni h) (hc : CaseH h) (w : RH) (q : RQ) (hk : RK w q) (hb : RHB w) (hn : w.R.length < 1000) (hn3 : w.us.length < 1000) (hn4 : w.sp.length < 1000) (hn6 : w.cl.length < 1000) (s : ST) (h1 : s.name.size ≤ 1000) (h2 : s.user.size ≤ 1000) :
    Ctr Tryz.prog F_rostrumref24_House_Do [.ptr 0 0, .agg (stcells s)] (hoR w q ++ [.heap h]) (RDid h w q s) := by
  by_cases h5 : s.kind = 5
  · exact s_refDo5 h hu hc w q hk hn hn3 s h1 h2 h5
  by_cases h6 : s.kind = 6
  · exact s_refDo6 h hu hc w q hk hb.su hn hn4 s h1 h2 h6
  by_cases h7 : s.kind = 7
  · cases hw : winR w (s.ar, s.an) with
    | some o => exact s_refDo7a h hu hc w q hk hn s h1 h2 h7 o hw
    | none => exact s_refDo7b h hu hc w q hk hn hn6 s h1 h2 hb.lz h7 hw
  have hbad : goodT s = true → s.kind < 5 := fun hg => by
    have := good_kind hg
    omega
  have fin : ∀ (l : List SO), refDE w s = 1 → VRet 8 (.tup [bv false, iv 1]) (hoR w q ++ .heap h :: l) (RDid h w q s) := by
    intro l hb
    have hd : RDid h w q s (.tup [bv false, iv (refDE w s)]) (hoR w q ++ [.heap h]) := .bad (by rw [hb]; decide)
    rw [hb] at hd
    exact VRet.mk [0, 1, 2, 3, 4, 5, 6, 7] (.tup [bv false, iv 1]) (hoR w q ++ [.heap h]) ⟨rfl, rfl, rfl⟩ hd
  refine i_rostrumref24_House_Do.spec follows ?_
  refine VCall.mk [7] (s_refGood h hu s h1 h2) ⟨rfl, rfl, rfl⟩ ?_
  rintro _ _ ⟨rfl, rfl⟩
  refine And.intro (fun k1 => ?_) (fun k1 => fin _ (by have k1 := nT k1; rw [refDE, k1]; rfl))
  have k1 := nF k1
  exact And.intro (fun k2 => fin _ (by rw [refDE, show decide (s.kind < 5) = true from k2]; simp)) (fun k2 => absurd (hbad k1) (of_decide_eq_false k2))
end Go.Proofs

namespace Go.Proofs
open Go Go.V Go.Lib
set_option maxRecDepth 100000
set_option linter.unusedVariables false

/-! ### What the document's own house tells -/
def depB (f : ByteArray) (t : ST) : Bool := decide (t.kind = 4) && decide (foldB t.user = f)
def depR (f : ByteArray) : List ST → Int
  | [] => 0
  | t :: l => (bif depB f t then t.amount else 0) + depR f l
theorem depR_snoc (f : ByteArray) : ∀ {l : List ST} {t : ST}, depR f (l ++ [t]) = depR f l + (bif depB f t then t.amount else 0)
  | [], t => by simp [depR]
  | a :: l, t => by
    simp only [List.cons_append, depR]
    rw [depR_snoc f]
    omega
theorem depR_bound (f : ByteArray) : ∀ {l : List ST}, (∀ t, t ∈ l → t.kind = 4 → 1 ≤ t.amount ∧ t.amount ≤ 1000000000) → 0 ≤ depR f l ∧ depR f l ≤ 1000000000 * l.length
  | [], _ => by simp [depR]
  | a :: l, h => by
    have h1 := h a (by simp)
    have h2 := depR_bound f (l := l) (fun n hn => h n (by simp [hn]))
    simp only [depR, List.length_cons]
    cases hb : depB f a
    · simp only [cond_false]; omega
    · have : a.kind = 4 := by simp only [depB, Bool.and_eq_true, decide_eq_true_eq] at hb; exact hb.1
      have h1 := h1 this
      simp only [cond_true]; omega
theorem addSm {a b : Int} {i n : Nat} (h0 : 0 ≤ a) (h1 : a ≤ 1000000000 * (i : Nat)) (h2 : 1 ≤ b ∧ b ≤ 1000000000) (hi : i ≤ n) (hn : n ≤ 1000) : IntKind.i64.wrap (a + b) = a + b := wrap64 (by omega)
structure RHD (w : RH) : Prop where
  lz : ∀ t, t ∈ w.L → t.user.size ≤ 100000000
  la : ∀ t, t ∈ w.L → t.kind = 4 → 1 ≤ t.amount ∧ t.amount ≤ 1000000000
def depT (w : RH) (u : ByteArray) : Int := min (depR (foldB u) w.L) 1125899906842624
theorem s_refDeposited (h : Nat → Option Obj) (hc : CaseH h) (w : RH) (q : RQ) (hk : RK w q) (hd : RHD w) (u : ByteArray) (hu : u.size ≤ 100000000) :
    Ctr Tryz.prog F_rostrumref24_House_Deposited [.ptr 0 0, .raw (.string u)] (hoR w q ++ [.heap h]) (fun r H => r = iv (depT w u) ∧ H = hoR w q ++ [.heap h]) := by
  refine i_rostrumref24_House_Deposited.spec follows ?_
  refine VLoop.mk Nat (fun i => [(0, .ptr 0 0), (1, .raw (.string u)), (5, iv (depR (foldB u) (w.L.take i))), (6, iv i)]) (fun _ => hoR w q ++ [.heap h]) (fun i => i ≤ w.L.length) (fun i => w.L.length - i) 0 [0, 1, 2, 3, 4, 5, 6, 7]
    ⟨Nat.zero_le _, rfl, rfl, rfl⟩ ?_
  rintro i hi g
  have hll := hk.ll
  refine And.intro (fun t1 => ?_) (fun t1 => ?_)
  · have t1 : (i : Int) < (w.L.length : Nat) := of_decide_eq_true t1
    have hil : i < w.L.length := Int.ofNat_lt.1 t1
    have hwi : IntKind.i64.wrap ((i : Int) + 1) = ((i + 1 : Nat) : Int) := wrapI hil hll
    have hx0 := hk.l.at (fun _ => rfl) hil (j := 0) (by decide)
    have hx12 := hk.l.at (fun _ => rfl) hil (j := 12) (by decide)
    have hx17 := hk.l.at (fun _ => rfl) hil (j := 17) (by decide)
    have hni : (0 : Int) ≤ (i : Int) ∧ (i : Int) < (w.L.length : Nat) ∧ q.l.o + w.L.length * 19 ≤ q.l.xs.length := ⟨Int.natCast_nonneg i, t1, RowG.room hk.l⟩
    have hb := depR_bound (foldB u) (l := w.L.take i) (fun n hn => hd.la n (List.mem_of_mem_take hn))
    rw [takeLen hi] at hb
    have hstep : depR (foldB u) (w.L.take (i + 1)) = depR (foldB u) (w.L.take i) + (bif depB (foldB u) w.L[i] then w.L[i].amount else 0) := by
      rw [← List.take_append_getElem hil]; exact depR_snoc _
    have hus := hd.lz _ (List.getElem_mem hil)
    have skip : depB (foldB u) w.L[i] = false → depR (foldB u) (w.L.take (i + 1)) = depR (foldB u) (w.L.take i) := fun e => by rw [hstep, e]; simp
    refine And.intro hni (Exists.intro _ (And.intro (by rw [Int.toNat_natCast]; exact hx0) ?_))
    refine And.intro (fun t2 => ?_) (fun t2 => ?_)
    · have t2 : decide (w.L[i].kind = 4) = true := t2
      refine And.intro hni (Exists.intro _ (And.intro (by rw [Int.toNat_natCast]; exact hx12) ?_))
      refine VCall.mk [7] (s_ref_Fold h hc w.L[i].user hus) ⟨rfl, rfl, rfl⟩ ?_
      rintro _ _ ⟨rfl, rfl⟩
      refine VCall.mk [7] (s_ref_Fold h hc u hu) ⟨rfl, rfl, rfl⟩ ?_
      rintro _ _ ⟨rfl, rfl⟩
      refine And.intro (fun t3 => ?_) (fun t3 => ?_)
      · rw [strB] at t3
        have t3 : decide (foldB w.L[i].user = foldB u) = true := t3
        have e : depB (foldB u) w.L[i] = true := by rw [depB, t2, t3]; rfl
        rw [e] at hstep
        have ham := hd.la _ (List.getElem_mem hil) (of_decide_eq_true t2)
        have hw := addSm hb.1 hb.2 ham hi hll
        refine And.intro hni (Exists.intro _ (And.intro (by rw [Int.toNat_natCast]; exact hx17) ?_))
        refine Exists.intro _ (And.intro hw ?_)
        refine Exists.intro _ (And.intro hwi ?_)
        exact Exists.intro (i + 1) (Exists.intro [0, 1, 2, 3, 4, 5, 6, 7] (And.intro ⟨hil, subLt hil⟩ ⟨by simp only [hstep]; rfl, rfl, rfl⟩))
      · rw [strB] at t3
        have t3 : decide (foldB w.L[i].user = foldB u) = false := t3
        have hstep := skip (by rw [depB, t2, t3]; rfl)
        refine Exists.intro _ (And.intro hwi ?_)
        exact Exists.intro (i + 1) (Exists.intro [0, 1, 2, 3, 4, 5, 6, 7] (And.intro ⟨hil, subLt hil⟩ ⟨by simp only [hstep]; rfl, rfl, rfl⟩))
    · have t2 : decide (w.L[i].kind = 4) = false := t2
      have hstep := skip (by rw [depB, t2]; rfl)
      refine Exists.intro _ (And.intro hwi ?_)
      exact Exists.intro (i + 1) (Exists.intro [0, 1, 2, 3, 4, 5, 6, 7] (And.intro ⟨hil, subLt hil⟩ ⟨by simp only [hstep]; rfl, rfl, rfl⟩))
  · have hil : i = w.L.length := Nat.le_antisymm hi (Int.ofNat_le.1 (Int.not_lt.1 (of_decide_eq_false t1)))
    have e : depR (foldB u) (w.L.take i) = depR (foldB u) w.L := by rw [hil, List.take_length]
    refine And.intro (fun t2 => ?_) (fun t2 => ?_)
    · have t2 := of_decide_eq_true t2
      rw [e] at t2
      have e2 : depT w u = 1125899906842624 := by unfold depT; omega
      exact VRet.mk [0, 1, 2, 3, 4, 5, 6, 7] (iv 1125899906842624) (hoR w q ++ [.heap h]) ⟨rfl, rfl, rfl⟩ ⟨by rw [e2], rfl⟩
    · have t2 := of_decide_eq_false t2
      rw [e] at t2
      have e2 : depT w u = depR (foldB u) (w.L.take i) := by unfold depT; rw [e]; omega
      exact VRet.mk [0, 1, 2, 3, 4, 5, 6, 7] (iv (depR (foldB u) (w.L.take i))) (hoR w q ++ [.heap h]) ⟨rfl, rfl, rfl⟩ ⟨by rw [e2], rfl⟩
theorem s_refBalance (h : Nat → Option Obj) (hc : CaseH h) (w : RH) (q : RQ) (hk : RK w q) (hd : RHD w) (hs : ∀ n, n ∈ w.su → 0 ≤ n ∧ n ≤ 1000000000) (u : ByteArray) (hu : u.size ≤ 100000000) :
    Ctr Tryz.prog F_rostrumref24_House_Balance [.ptr 0 0, .raw (.string u)] (hoR w q ++ [.heap h]) (fun r H => r = iv (depT w u - wdS (foldB u) w.sp w.su) ∧ H = hoR w q ++ [.heap h]) := by
  have hw : IntKind.i64.wrap (depT w u - wdS (foldB u) w.sp w.su) = depT w u - wdS (foldB u) w.sp w.su := by
    have h1 := depR_bound (foldB u) (l := w.L) hd.la
    have h2 := wdS_bound (foldB u) (l := w.sp) (m := w.su) hs
    have h3 := hk.sl
    have h4 := hk.pl
    have h5 : 0 ≤ depT w u ∧ depT w u ≤ 1125899906842624 := by unfold depT; omega
    exact wrapSub h5.1 h5.2 h2.1 h2.2 (by omega)
  refine i_rostrumref24_House_Balance.spec follows ?_
  refine VCall.mk [0, 1, 2, 3, 4, 5, 6, 7] (s_refDeposited h hc w q hk hd u hu) ⟨rfl, rfl, rfl⟩ ?_
  rintro _ _ ⟨rfl, rfl⟩
  refine VCall.mk [0, 1, 2, 3, 4, 5, 6, 7] (s_withdrawn h hc w q hk hs u hu) ⟨rfl, rfl, rfl⟩ ?_
  rintro _ _ ⟨rfl, rfl⟩
  refine Exists.intro _ (And.intro hw ?_)
  exact VRet.mk [0, 1, 2, 3, 4, 5, 6, 7] (iv (depT w u - wdS (foldB u) w.sp w.su)) (hoR w q ++ [.heap h]) ⟨rfl, rfl, rfl⟩ ⟨rfl, rfl⟩
def openR (w : RH) (a : Int × Int) : Bool := (findR w 1 a).isSome && !(winR w a).isSome
theorem s_refOpen (w : RH) (q : RQ) (hk : RK w q) (a : Int × Int) : Ctr Tryz.prog F_rostrumref24_House_Open [.ptr 0 0, .agg (dcells a.1 a.2)] (hoR w q) (fun r H => r = bv (openR w a) ∧ H = hoR w q) := by
  have fin : ∀ (b : Bool) (l : List SO), b = openR w a → VRet 7 (bv b) (hoR w q ++ l) (fun r H => r = bv (openR w a) ∧ H = hoR w q) := by
    rintro b l rfl
    exact VRet.mk [0, 1, 2, 3, 4, 5, 6] _ (hoR w q) ⟨rfl, rfl, rfl⟩ ⟨rfl, rfl⟩
  have hW := s_refWinner w q hk a
  cases hwin : winR w a with
  | none =>
    rw [hwin] at hW
    refine i_rostrumref24_House_Open.spec follows ?_
    refine VCall.mk [0, 1, 2, 3, 4, 5, 6] (s_find w q hk 1 a) ⟨rfl, rfl, rfl⟩ ?_
    rintro _ _ ⟨rfl, rfl⟩
    refine VCall.mk [0, 1, 2, 3, 4, 5, 6] hW ⟨rfl, rfl, rfl⟩ ?_
    rintro _ _ ⟨rfl, rfl⟩
    refine And.intro (fun k => ?_) (fun k => ?_)
    · exact fin _ _ (by rw [openR, hwin, show (findR w 1 a).isSome = true from k]; rfl)
    · exact fin _ _ (by rw [openR, hwin, show (findR w 1 a).isSome = false from k]; rfl)
  | some o =>
    rw [hwin] at hW
    refine i_rostrumref24_House_Open.spec follows ?_
    refine VCall.mk [0, 1, 2, 3, 4, 5, 6] (s_find w q hk 1 a) ⟨rfl, rfl, rfl⟩ ?_
    rintro _ _ ⟨rfl, rfl⟩
    refine VCall.mk [0, 1, 2, 3, 4, 5, 6] hW ⟨rfl, rfl, rfl⟩ ?_
    rintro _ _ ⟨rfl, rfl⟩
    refine And.intro (fun k => ?_) (fun k => ?_)
    · exact fin _ _ (by rw [openR, hwin, show (findR w 1 a).isSome = true from k]; rfl)
    · exact fin _ _ (by rw [openR, hwin, show (findR w 1 a).isSome = false from k]; rfl)
end Go.Proofs

namespace Go.Proofs
open Go Go.V Go.Lib
set_option maxRecDepth 100000
set_option linter.unusedVariables false

def dotS (t : ST) : Int × Int := (t.rep, t.n)
def aucR (w : RH) : List (Int × Int) := (w.L.filter fun t => decide (t.kind = 1)).map dotS
def bidD (w : RH) (a : Int × Int) : List (Int × Int) := (bidsR w a w.v).map dotS
structure RDX where
  xs : List Value
  o : Nat
  c : Nat
  D : List (Int × Int)
  i : Nat
theorem small16' {n : Nat} (h : n ≤ 1000) : (n + 1) * 16 ≤ 1099511627776 := by omega
theorem mapTake {α β : Type} {f : α → β} {l : List α} {i : Nat} (h : i < l.length) : (l.take (i + 1)).map f = (l.take i).map f ++ [f l[i]] := by
  rw [← List.take_append_getElem h, List.map_append]; rfl
theorem s_refBidD (w : RH) (q : RQ) (hk : RK w q) (a : Int × Int) :
    Ctr Tryz.prog F_rostrumref24_House_Bids [.ptr 0 0, .agg (dcells a.1 a.2)] (hoR w q)
      (fun r H => ∃ xs o c, r = .sl 7 o (bidD w a).length c ∧ H = hoR w q ++ [.arr xs T_api_Dot] ∧ RowG dcl 2 xs o c (bidD w a)) := by
  refine i_rostrumref24_House_Bids.spec follows ?_
  refine VCall.mk [0, 1, 2, 3, 4, 5, 6] (s_refBids w q hk a w.v) ⟨rfl, rfl, rfl⟩ ?_
  rintro _ _ ⟨bs, bo, bc, rfl, rfl, hrb⟩
  have hBl : (bidsR w a w.v).length ≤ 1000 := Nat.le_trans (List.length_filter_le _ _) hk.ll
  refine VLoop.nil T_api_Dot [5] [] ⟨rfl, rfl⟩ ?_
  refine VLoop.mk RDX (fun x => [(5, .sl 8 x.o x.D.length x.c), (6, .sl 7 bo (bidsR w a w.v).length bc), (7, iv x.i)]) (fun x => hoR w q ++ [.arr bs T_rostrumref24_Step, .arr x.xs T_api_Dot])
    (fun x => x.i ≤ (bidsR w a w.v).length ∧ x.D = ((bidsR w a w.v).take x.i).map dotS ∧ RowG dcl 2 x.xs x.o x.c x.D) (fun x => (bidsR w a w.v).length - x.i) ⟨[], 0, 0, [], 0⟩ [0, 1, 2, 3, 4, 5, 6, 8, 9]
    ⟨⟨Nat.zero_le _, rfl, RowG.nilS⟩, rfl, rfl, rfl⟩ ?_
  rintro ⟨xs, o, c, D, i⟩ ⟨hi, hD, hr⟩ g
  simp only at hi hD hr
  refine And.intro (fun t1 => ?_) (fun t1 => ?_)
  · have t1 : (i : Int) < ((bidsR w a w.v).length : Nat) := of_decide_eq_true t1
    have hil : i < (bidsR w a w.v).length := Int.ofNat_lt.1 t1
    have hwi : IntKind.i64.wrap ((i : Int) + 1) = ((i + 1 : Nat) : Int) := wrapI hil hBl
    have hx := hrb.cut (fun _ => rfl) hil
    have hx1 := cut_sub hx 1 2 (by decide)
    have hft := mapTake (f := dotS) hil
    have hni : (0 : Int) ≤ (i : Int) ∧ (i : Int) < ((bidsR w a w.v).length : Nat) ∧ bo + (bidsR w a w.v).length * 19 ≤ bs.length := ⟨Int.natCast_nonneg i, t1, RowG.room hrb⟩
    have hDl : D.length ≤ 1000 := by rw [hD, List.length_map]; exact Nat.le_trans (List.length_take_le' _ _) hBl
    refine And.intro hni (Exists.intro _ (And.intro (by rw [Int.toNat_natCast]; exact hx1) ?_))
    refine And.intro ⟨⟨hr.1, hr.2.1, rfl⟩, ⟨rfl, rfl⟩, small16' hDl⟩ ?_
    intro xs' o' c' hz
    refine Exists.intro _ (And.intro hwi ?_)
    refine Exists.intro ⟨xs', o', c', D ++ [dotS (bidsR w a w.v)[i]], i + 1⟩ (Exists.intro [0, 1, 2, 3, 4, 5, 6, 7, 10] (And.intro ⟨⟨hil, by simp only; rw [hft, hD], RowG.snoc hr rfl hz.1 hz.2.1 hz.2.2⟩, subLt hil⟩ ⟨?_, rfl, rfl⟩))
    simp only [List.length_append, List.length_cons, List.length_nil]; rfl
  · have hil : i = (bidsR w a w.v).length := Nat.le_antisymm hi (Int.ofNat_le.1 (Int.not_lt.1 (of_decide_eq_false t1)))
    rw [hil, List.take_length] at hD
    have hD : D = bidD w a := hD
    subst hD
    exact VRet.mk [0, 1, 2, 3, 4, 5, 6, 8] (.sl 7 o (bidD w a).length c) (hoR w q ++ [.arr xs T_api_Dot]) ⟨rfl, rfl, rfl⟩ ⟨xs, o, c, rfl, rfl, hr⟩
end Go.Proofs

namespace Go.Proofs
open Go Go.V Go.Lib
set_option maxRecDepth 100000
set_option linter.unusedVariables false

/-! ### The two houses side by side -/
def RH.new : RH := ⟨fun _ => 0, [], [], [], [], [], []⟩
structure Sim (x : HL) (w : RH) : Prop where
  v : w.v = x.v
  ls : w.L.Pairwise fun a b => ltDD (dotS a) (dotS b)
  lm : ∀ s, s ∈ w.L ↔ MP.get x.bs (dotS s) = some s
  r : w.R = x.red
  us : w.us.Pairwise fun a b => bless a b = true
  um : ∀ f, f ∈ w.us ↔ (MP.get x.us f).isSome = true
  wd : ∀ f, wdS f w.sp w.su = drawnF x f
  sl : w.su.length = w.sp.length
  su : ∀ n, n ∈ w.su → 0 ≤ n ∧ n ≤ 1000000000
  cl : ∀ d, winR w d = MP.get x.cs d
theorem sim_new : Sim HL.new RH.new where
  v := rfl
  ls := List.Pairwise.nil
  lm := fun s => by show s ∈ [] ↔ MP.get [] _ = _; rw [get_nil]; simp
  r := rfl
  us := List.Pairwise.nil
  um := fun f => by show f ∈ [] ↔ (MP.get [] _).isSome = true; rw [get_nil]; simp
  wd := fun f => rfl
  sl := rfl
  su := by simp [RH.new]
  cl := fun d => rfl
theorem ltS_iff {a b : ST} : ltS a b = true ↔ ltDD (dotS a) (dotS b) := by simp [ltS, ltB, ltDD, dotS]
theorem bytesLess_lt : ∀ (x y : List UInt8), Op.bytesLess x y = decide (x < y)
  | [], [] => by simp [Op.bytesLess]
  | _ :: _, [] => by simp [Op.bytesLess]
  | [], _ :: _ => by simp [Op.bytesLess]
  | a :: x, b :: y => by
    rw [Op.bytesLess, bytesLess_lt x y]
    simp only [List.cons_lt_cons_iff]
    by_cases h1 : a < b <;> by_cases h2 : a = b <;> by_cases h3 : x < y <;> simp [h1, h2, h3]
theorem bless_iff {a b : ByteArray} : bless a b = true ↔ a.data.toList < b.data.toList := by
  rw [bless, bytesLess_lt, ByteArray.toList_eq, ByteArray.toList_eq, decide_eq_true_eq]
theorem bytes_ext {a b : ByteArray} (h : a.data.toList = b.data.toList) : a = b := by
  cases a with | mk a => cases b with | mk b => congr 1; exact Array.toList_inj.1 h
theorem bless_tr {a b c : ByteArray} (h1 : bless a b = true) (h2 : bless b c = true) : bless a c = true := by
  rw [bless_iff] at *; exact List.lt_trans h1 h2
theorem bless_tri {a b : ByteArray} (h : a ≠ b) (h1 : ¬ bless a b = true) : bless b a = true := by
  rw [bless_iff] at *
  rcases Decidable.em (b.data.toList < a.data.toList) with h2 | h2
  · exact h2
  · exact absurd (bytes_ext (List.le_antisymm h2 h1)) h
/-! A row with one laid in. -/
theorem ins_pw {α : Type} {R : α → α → Prop} {l : List α} {s : α} {k : Nat} (tr : ∀ {a b c}, R a b → R b c → R a c) (hl : l.Pairwise R) (hk : k ≤ l.length) (lo : ∀ j (hj : j < l.length), j < k → R l[j] s) (hi : ∀ (h : k < l.length), R s l[k]) : (l.take k ++ [s] ++ l.drop k).Pairwise R := by
  have hs : ∀ b, b ∈ l.drop k → R s b := by
    intro b hb
    obtain ⟨j, hj, rfl⟩ := List.mem_iff_getElem.1 hb
    rw [List.length_drop] at hj
    rw [List.getElem_drop]
    have h1 := hi (by omega)
    rcases Nat.eq_zero_or_pos j with h0 | h0
    · subst h0; simpa using h1
    · exact tr h1 (List.pairwise_iff_getElem.1 hl k (k + j) (by omega) (by omega) (by omega))
  have ht : ∀ a, a ∈ l.take k → R a s := by
    intro a ha
    obtain ⟨j, hj, rfl⟩ := List.mem_iff_getElem.1 ha
    rw [List.length_take] at hj
    rw [List.getElem_take]
    exact lo j (by omega) (by omega)
  rw [List.append_assoc, List.pairwise_append]
  refine ⟨List.Pairwise.sublist (List.take_sublist _ _) hl, ?_, ?_⟩
  · rw [List.singleton_append, List.pairwise_cons]
    exact ⟨hs, List.Pairwise.sublist (List.drop_sublist _ _) hl⟩
  · intro a ha b hb
    rw [List.singleton_append, List.mem_cons] at hb
    rcases hb with rfl | hb
    · exact ht a ha
    · exact tr (ht a ha) (hs b hb)
theorem mem_ins {α : Type} {l : List α} {s : α} {k : Nat} (x : α) : x ∈ l.take k ++ [s] ++ l.drop k ↔ x = s ∨ x ∈ l := by
  have h : x ∈ l ↔ x ∈ l.take k ∨ x ∈ l.drop k := by rw [← List.mem_append, List.take_append_drop]
  rw [h]
  simp only [List.mem_append, List.mem_singleton]
  constructor
  · rintro ((h | h) | h)
    · exact .inr (.inl h)
    · exact .inl h
    · exact .inr (.inr h)
  · rintro (h | h | h)
    · exact .inl (.inr h)
    · exact .inl (.inl h)
    · exact .inr h
theorem refE_is {x : HL} {w : RH} (hs : Sim x w) (s : ST) : refE w s = blueE x s := by
  unfold refE blueE
  rw [hs.v, hs.r]
  have hh : (!goodT s || decide (4 < s.kind)) = (!goodT s || redT s) := by
    cases hg : goodT s with
    | false => rfl
    | true =>
      have h7 := (good_kind hg).2
      have : decide (4 < s.kind) = redT s := by
        unfold redT
        rw [show decide (s.kind ≤ 7) = true from decide_eq_true h7, Bool.and_true]
        exact decide_eq_decide.2 ⟨fun h => by omega, fun h => by omega⟩
      rw [this]
  rw [hh]
theorem refDE_is {x : HL} {w : RH} (hs : Sim x w) (s : ST) : refDE w s = doE x s := by
  unfold refDE doE gapT
  rw [hs.v, hs.r]
  have hh : (!goodT s || decide (s.kind < 5)) = (!goodT s || !redT s) := by
    cases hg : goodT s with
    | false => rfl
    | true =>
      have h7 := (good_kind hg).2
      have : decide (s.kind < 5) = !redT s := by
        unfold redT
        rw [show decide (s.kind ≤ 7) = true from decide_eq_true h7, Bool.and_true, ← decide_not]
        exact decide_eq_decide.2 ⟨fun h => by omega, fun h => by omega⟩
      rw [this]
  rw [hh]
theorem sim_blue {x : HL} {w : RH} {N : Nat} (hx : HI x N) (hs : Sim x w) {s : ST} (he : blueE x s = 0) {k : Nat} (hI : InsAt w.L s k) : Sim (blueN x s) (wB w s k) := by
  obtain ⟨g1, g2, g3, g4, g5, g6⟩ := blueE_0 he
  have hf : MP.get x.bs (s.rep, s.n) = none := hx.fresh g3
  rw [blueN_0 he]
  have hne : ∀ t, t ∈ w.L → dotS t ≠ dotS s := fun t ht e => by
    have := (hs.lm t).1 ht
    rw [e] at this
    rw [show MP.get x.bs (dotS s) = none from hf] at this; cases this
  exact {
    v := by show upv w.v s.rep.toNat s.n = upv x.v s.rep.toNat (x.v s.rep.toNat + 1); rw [hs.v, ← g4]
    ls := by
      refine ins_pw (fun h1 h2 => h1.trans h2) hs.ls hI.le (fun j hj hjk => ltS_iff.1 (hI.lo j hj hjk)) (fun h => ?_)
      have h1 := hI.hi h
      rcases ltDD.tri (hne _ (List.getElem_mem h)) with h2 | h2
      · rw [ltS_iff.2 h2] at h1; cases h1
      · exact h2
    lm := fun t => by
      show t ∈ insL w.L s k ↔ MP.get (MP.put x.bs (s.rep, s.n) s x.bc) (dotS t) = some t
      rw [insL, mem_ins, get_put]
      by_cases e : dotS t = (s.rep, s.n)
      · rw [if_pos e]
        constructor
        · rintro (h | h)
          · rw [h]
          · exact absurd e (hne t h)
        · intro h; exact .inl (Option.some.inj h).symm
      · rw [if_neg e]
        constructor
        · rintro (h | h)
          · subst h; exact absurd rfl e
          · exact (hs.lm t).1 h
        · intro h; exact .inr ((hs.lm t).2 h)
    r := hs.r
    us := hs.us
    um := hs.um
    wd := hs.wd
    sl := hs.sl
    su := hs.su
    cl := hs.cl }
/-! ### What they tell -/
theorem Sim.mem {x : HL} {w : RH} {N : Nat} (hx : HI x N) (hs : Sim x w) (t : ST) : t ∈ w.L ↔ ∃ e, e ∈ x.bs ∧ e.2.1 = t := by
  rw [hs.lm]
  constructor
  · intro h
    obtain ⟨e, h1, h2, h3⟩ := mem_of_get h
    exact ⟨e, h1, h3⟩
  · rintro ⟨e, h1, rfl⟩
    have := get_of_mem hx.bk h1
    rwa [(hx.be e h1).2.2.1] at this
theorem Sim.key {x : HL} {N : Nat} (hx : HI x N) {e : (Int × Int) × ST × Nat} (h : e ∈ x.bs) : e.1 = dotS e.2.1 := (hx.be e h).2.2.1
theorem bidD_is {x : HL} {w : RH} {N : Nat} (hx : HI x N) (hs : Sim x w) (a : Int × Int) (v : Nat → Int) : (bidsR w a v).map dotS = bidsF x.bs a v := by
  have hB := bidsF_is (a := a) (sv := v) hx.bk
  refine srt_ext ?_ hB.srt fun d => ?_
  · rw [List.pairwise_map]
    exact List.Pairwise.sublist List.filter_sublist hs.ls
  rw [hB.mem]
  rw [List.mem_map]
  have hcan : ∀ t, t ∈ w.L → (w.L.any (goneR v t) = true ↔ ∃ e, e ∈ x.bs ∧ canE v (dotS t) e = true) := by
    intro t ht
    rw [List.any_eq_true]
    constructor
    · rintro ⟨y, hy, hg⟩
      obtain ⟨e, h1, h2⟩ := (hs.mem hx y).1 hy
      refine ⟨e, h1, ?_⟩
      have hk := Sim.key hx h1
      subst h2
      simp only [goneR, Bool.and_eq_true, decide_eq_true_eq] at hg
      simp only [canE, Bool.and_eq_true, decide_eq_true_eq, hk]
      exact ⟨hg.2.2, hg.1, hg.2.1.1, hg.2.1.2⟩
    · rintro ⟨e, h1, h2⟩
      refine ⟨e.2.1, (hs.mem hx _).2 ⟨e, h1, rfl⟩, ?_⟩
      have hk := Sim.key hx h1
      simp only [canE, Bool.and_eq_true, decide_eq_true_eq, hk] at h2
      simp only [goneR, Bool.and_eq_true, decide_eq_true_eq]
      exact ⟨h2.2.1, ⟨h2.2.2.1, h2.2.2.2⟩, h2.1⟩
  constructor
  · rintro ⟨t, ht, rfl⟩
    obtain ⟨htL, hok⟩ := List.mem_filter.1 ht
    simp only [okR, Bool.and_eq_true, Bool.not_eq_true'] at hok
    obtain ⟨e, h1, h2⟩ := (hs.mem hx t).1 htL
    have hk := Sim.key hx h1
    refine ⟨⟨e, h1, by rw [hk, h2], ?_⟩, fun h => ?_⟩
    · have hb := hok.1
      subst h2
      simp only [bidR, Bool.and_eq_true, decide_eq_true_eq] at hb
      simp only [bidE, Bool.and_eq_true, decide_eq_true_eq, hk]
      exact ⟨hb.2.2, hb.1, hb.2.1⟩
    · rw [(hcan t htL).2 h] at hok
      exact absurd hok.2 (by decide)
  · rintro ⟨⟨e, h1, h2, h3⟩, h4⟩
    have hk := Sim.key hx h1
    have htL := (hs.mem hx e.2.1).2 ⟨e, h1, rfl⟩
    refine ⟨e.2.1, List.mem_filter.2 ⟨htL, ?_⟩, by rw [← hk, h2]⟩
    simp only [okR, Bool.and_eq_true, Bool.not_eq_true']
    refine ⟨?_, ?_⟩
    · simp only [bidE, Bool.and_eq_true, decide_eq_true_eq, hk] at h3
      simp only [bidR, Bool.and_eq_true, decide_eq_true_eq]
      exact ⟨h3.2.1, h3.2.2, h3.1⟩
    · rw [Bool.eq_false_iff]
      intro h
      apply h4
      rw [← h2, hk]
      exact (hcan _ htL).1 h
theorem regF_is {x : HL} {w : RH} {N : Nat} (hx : HI x N) (hs : Sim x w) (f : ByteArray) : regF w f = (MP.get x.us f).getD false := by
  have h1 : regF w f = true ↔ f ∈ w.us := by
    unfold regF
    rw [List.any_eq_true]
    constructor
    · rintro ⟨t, ht, e⟩
      rw [decide_eq_true_eq] at e
      subst e; exact ht
    · exact fun h => ⟨f, h, by simp⟩
  have h2 : (MP.get x.us f).getD false = true ↔ (MP.get x.us f).isSome = true := by
    cases hq : MP.get x.us f with
    | none => simp
    | some b =>
      obtain ⟨e, h1, h2, h3⟩ := mem_of_get hq
      have := hx.ue e h1
      rw [h3] at this; subst this; simp
  apply Bool.eq_iff_iff.2
  rw [h1, hs.um, h2]
theorem best_is {bs : MB} {l : List ST} {b : Int} (hb : bestR l l.length b) (ha : ∀ t, t ∈ l → amt bs (dotS t) = t.amount) (hl : l.Pairwise fun a b => ltDD (dotS a) (dotS b)) :
    (b = -1 ∧ bestF bs (l.map dotS) = none) ∨ ∃ (k : Nat) (hk : k < l.length), b = (k : Int) ∧ bestF bs (l.map dotS) = some (dotS l[k]) := by
  rcases hb with ⟨h1, h2⟩ | ⟨k, h1, h2, hk, h3, h4⟩
  · have : l = [] := List.eq_nil_of_length_eq_zero h2
    subst this; exact .inl ⟨h1, rfl⟩
  · refine .inr ⟨k, hk, h1, (BestO.eq ?_).symm⟩
    refine (⟨List.mem_map.2 ⟨l[k], List.getElem_mem hk, rfl⟩, ?_⟩ : dotS l[k] ∈ l.map dotS ∧ ∀ e, e ∈ l.map dotS → ¬ gtB bs e (dotS l[k]))
    intro e he
    obtain ⟨t, ht, rfl⟩ := List.mem_map.1 he
    obtain ⟨j, hj, rfl⟩ := List.mem_iff_getElem.1 ht
    unfold gtB
    rw [ha _ (List.getElem_mem hk), ha _ (List.getElem_mem hj)]
    have h5 := h3 j hj hj
    rintro (h | ⟨h, h6⟩)
    · omega
    · rcases Nat.lt_trichotomy j k with h7 | h7 | h7
      · have := h4 j hj h7; omega
      · subst h7; exact ltDD.irr h6
      · exact ltDD.irr ((List.pairwise_iff_getElem.1 hl k j hk hj h7).trans h6)
theorem Sim.amt {x : HL} {w : RH} (hs : Sim x w) {t : ST} (ht : t ∈ w.L) : Go.Proofs.amt x.bs (dotS t) = t.amount := by
  unfold Go.Proofs.amt; rw [(hs.lm t).1 ht]; rfl
theorem Sim.usr {x : HL} {w : RH} (hs : Sim x w) {t : ST} (ht : t ∈ w.L) : Go.Proofs.usr x.bs (dotS t) = t.user := by
  unfold Go.Proofs.usr; rw [(hs.lm t).1 ht]; rfl
theorem live_is {x : HL} {w : RH} {N : Nat} (hx : HI x N) (hs : Sim x w) (s : ST) : (liveR w s).map dotS = (bidsF x.bs (s.ar, s.an) s.seen).filter (regB x) := by
  rw [← bidD_is hx hs, List.filter_map, liveR]
  congr 1
  refine List.filter_congr fun t ht => ?_
  have htL := (List.mem_filter.1 ht).1
  show regF w (foldB t.user) = regB x (dotS t)
  rw [regB, hs.usr htL, regF_is hx hs]
theorem out_is {x : HL} {w : RH} {N : Nat} (hx : HI x N) (hs : Sim x w) (s : ST) {b : Int} (hb : bestR (liveR w s) (liveR w s).length b) : outAt (liveR w s) b = outF x s := by
  have hL : ∀ t, t ∈ liveR w s → t ∈ w.L := fun t ht => (List.mem_filter.1 (List.mem_filter.1 ht).1).1
  have hp : (liveR w s).Pairwise fun a b => ltDD (dotS a) (dotS b) := List.Pairwise.sublist (List.Sublist.trans List.filter_sublist List.filter_sublist) hs.ls
  unfold outF
  rw [← live_is hx hs]
  rcases best_is hb (fun t ht => hs.amt (hL t ht)) hp with ⟨h1, h2⟩ | ⟨k, hk, h1, h2⟩
  · rw [h2, h1]; rfl
  · have hm := hL _ (List.getElem_mem hk)
    rw [h2, h1, outAt_k hk]
    show _ = (⟨(dotS (liveR w s)[k]).1, (dotS (liveR w s)[k]).2, Go.Proofs.usr x.bs (dotS (liveR w s)[k]), Go.Proofs.amt x.bs (dotS (liveR w s)[k])⟩ : OC)
    rw [hs.usr hm, hs.amt hm]; rfl
theorem find_is {x : HL} {w : RH} {N : Nat} (hx : HI x N) (hs : Sim x w) (d : Int × Int) : (findR w 1 d).isSome = decide (((MP.get x.bs d).getD zeroT').kind = 1) := by
  apply Bool.eq_iff_iff.2
  rw [decide_eq_true_eq]
  unfold findR
  rw [List.find?_isSome]
  constructor
  · rintro ⟨t, ht, h⟩
    simp only [isD, Bool.and_eq_true, decide_eq_true_eq] at h
    have e : dotS t = d := by show (t.rep, t.n) = d; rw [h.1.1, h.1.2]
    rw [← e, (hs.lm t).1 ht]; exact h.2
  · intro h
    cases hq : MP.get x.bs d with
    | none => rw [hq] at h; exact absurd h (by decide)
    | some t =>
      rw [hq] at h
      obtain ⟨e, h1, h2, h3⟩ := mem_of_get hq
      have hk := Sim.key hx h1
      rw [h2, h3] at hk
      refine ⟨t, (hs.lm t).2 (by rw [← hk]; exact hq), ?_⟩
      simp only [isD, Bool.and_eq_true, decide_eq_true_eq]
      rw [hk]; exact ⟨⟨rfl, rfl⟩, h⟩
theorem may_is {x : HL} {w : RH} {N : Nat} (hx : HI x N) (hs : Sim x w) (s : ST) : mayR w s = mayEnd x s := by
  rw [mayR, mayEnd, find_is hx hs, hs.cl]
  cases decide (((MP.get x.bs (s.ar, s.an)).getD zeroT').kind = 1) <;> simp
theorem open_is {x : HL} {w : RH} {N : Nat} (hx : HI x N) (hs : Sim x w) (d : Int × Int) : openR w d = openF x d := by
  rw [openR, openF, find_is hx hs, hs.cl]
theorem auc_is {x : HL} {w : RH} {N : Nat} (hx : HI x N) (hs : Sim x w) : aucR w = aucF x := by
  have hn : ((x.bs.filter opE).map (·.1)).Nodup := List.Sublist.nodup (List.Sublist.map _ List.filter_sublist) hx.bk
  refine srt_ext ?_ (srt_sortD hn) fun d => ?_
  · show ((w.L.filter fun t => decide (t.kind = 1)).map dotS).Pairwise ltDD
    rw [List.pairwise_map]
    exact List.Pairwise.sublist List.filter_sublist hs.ls
  · rw [aucR, aucF, mem_sortD, List.mem_map, List.mem_map]
    constructor
    · rintro ⟨t, ht, rfl⟩
      obtain ⟨h1, h2⟩ := List.mem_filter.1 ht
      obtain ⟨e, h3, h4⟩ := (hs.mem hx t).1 h1
      have hk := Sim.key hx h3
      refine ⟨e, List.mem_filter.2 ⟨h3, ?_⟩, by rw [hk, h4]⟩
      subst h4; exact h2
    · rintro ⟨e, he, rfl⟩
      obtain ⟨h1, h2⟩ := List.mem_filter.1 he
      have hk := Sim.key hx h1
      exact ⟨e.2.1, List.mem_filter.2 ⟨(hs.mem hx _).2 ⟨e, h1, rfl⟩, h2⟩, hk.symm⟩
theorem depR_perm (f : ByteArray) {l m : List ST} (h : l.Perm m) : depR f l = depR f m := by
  induction h with
  | nil => rfl
  | cons x h ih => simp only [depR, ih]
  | swap x y l => simp only [depR]; omega
  | trans h1 h2 i1 i2 => rw [i1, i2]
theorem depR_map (f : ByteArray) : ∀ bs : MB, depR f (bs.map (·.2.1)) = depS f bs
  | [] => rfl
  | e :: bs => by simp only [List.map_cons, depR, depS, depR_map f bs]; rfl
theorem nodup_pw {α : Type} {R : α → α → Prop} (h : ∀ {a b}, R a b → a ≠ b) {l : List α} (hl : l.Pairwise R) : l.Nodup := List.Pairwise.imp (fun h' => h h') hl
theorem Sim.perm {x : HL} {w : RH} {N : Nat} (hx : HI x N) (hs : Sim x w) : (x.bs.map (·.2.1)).Perm w.L := by
  refine (List.perm_ext_iff_of_nodup ?_ (nodup_pw (fun h e => by subst e; exact ltDD.irr h) hs.ls)).2 fun t => by rw [hs.mem hx, List.mem_map]
  have h : x.bs.map (·.1) = (x.bs.map (·.2.1)).map dotS := by
    rw [List.map_map]
    exact List.map_congr_left fun e he => Sim.key hx he
  have h2 := hx.bk
  rw [h] at h2
  exact nodup_of_map _ h2
theorem dep_is {x : HL} {w : RH} {N : Nat} (hx : HI x N) (hs : Sim x w) (u : ByteArray) : depT w u = depF x u := by
  rw [depT, depF, ← depR_perm (foldB u) (hs.perm hx), depR_map]
/-! ### A red step -/
theorem us_put {x : HL} {w : RH} (hs : Sim x w) (f : ByteArray) (c : Nat) {us : List ByteArray} (h : ∀ g, g ∈ us ↔ g = f ∨ g ∈ w.us) (g : ByteArray) : g ∈ us ↔ (MP.get (MP.put x.us f true c) g).isSome = true := by
  rw [h, get_put, hs.um]
  by_cases e : g = f
  · simp [e]
  · simp [e]
theorem reg_mem {x : HL} {w : RH} {f : ByteArray} (h : regF w f = true) : f ∈ w.us := by
  unfold regF at h
  obtain ⟨t, ht, e⟩ := List.any_eq_true.1 h
  rw [decide_eq_true_eq] at e
  subst e; exact ht
theorem sim_no {x : HL} {w : RH} {N : Nat} (hx : HI x N) (hs : Sim x w) {s : ST} (h : s.kind = 5 ∧ regF w (foldB s.user) = true ∨ s.kind = 6 ∧ s.funds - wdS (foldB s.user) w.sp w.su < s.amount ∨ s.kind = 7 ∧ mayR w s = false) : Sim (doN x s) (w.did s) ∧ doB x s = false := by
  rcases h with ⟨h1, h2⟩ | ⟨h1, h2⟩ | ⟨h1, h2⟩
  · have h3 := h2
    rw [regF_is hx hs] at h3
    rw [show doN x s = usD x s by simp [doN, h1]]
    refine ⟨?_, by simp [doB, h1, h3]⟩
    have hm := reg_mem (x := x) h2
    have hset : ∀ g, g ∈ w.us ↔ g = foldB s.user ∨ g ∈ w.us := fun g => ⟨.inr, fun h => by
      rcases h with h | h
      · subst h; exact hm
      · exact h⟩
    exact { v := hs.v, ls := hs.ls, lm := hs.lm, r := by show w.R ++ [s] = x.red ++ [s]; rw [hs.r], us := hs.us, um := us_put hs _ _ hset, wd := hs.wd, sl := hs.sl, su := hs.su, cl := hs.cl }
  · rw [hs.wd] at h2
    have h3 : ¬ s.amount ≤ s.funds - drawnF x (foldB s.user) := by omega
    rw [show doN x s = x.did s by simp [doN, h1, h3]]
    exact ⟨{ v := hs.v, ls := hs.ls, lm := hs.lm, r := by show w.R ++ [s] = x.red ++ [s]; rw [hs.r], us := hs.us, um := hs.um, wd := hs.wd, sl := hs.sl, su := hs.su, cl := hs.cl }, by simp [doB, h1, h3]⟩
  · rw [may_is hx hs] at h2
    rw [show doN x s = x.did s by simp [doN, h1, h2]]
    exact ⟨{ v := hs.v, ls := hs.ls, lm := hs.lm, r := by show w.R ++ [s] = x.red ++ [s]; rw [hs.r], us := hs.us, um := hs.um, wd := hs.wd, sl := hs.sl, su := hs.su, cl := hs.cl }, by simp [doB, h1, h2]⟩
theorem sim_reg {x : HL} {w : RH} {N : Nat} (hx : HI x N) (hs : Sim x w) {s : ST} (h1 : s.kind = 5) (h2 : regF w (foldB s.user) = false) {k : Nat} (hI : InsU w.us (foldB s.user) k) : Sim (doN x s) (w.reg s k) ∧ doB x s = true := by
  have h3 := h2
  rw [regF_is hx hs] at h3
  rw [show doN x s = usD x s by simp [doN, h1]]
  refine ⟨?_, by simp [doB, h1, h3]⟩
  have hn : ∀ g, g ∈ w.us → g ≠ foldB s.user := fun g hg e => by
    subst e
    have : regF w (foldB s.user) = true := List.any_eq_true.2 ⟨_, hg, by simp⟩
    rw [this] at h2; cases h2
  exact {
    v := hs.v
    ls := hs.ls
    lm := hs.lm
    r := by show w.R ++ [s] = x.red ++ [s]; rw [hs.r]
    us := ins_pw (fun h1 h2 => bless_tr h1 h2) hs.us hI.le hI.lo (fun h => bless_tri (hn _ (List.getElem_mem h)) (by rw [hI.hi h]; decide))
    um := us_put hs _ _ (us := insU w.us (foldB s.user) k) (fun g => mem_ins g)
    wd := hs.wd
    sl := hs.sl
    su := hs.su
    cl := hs.cl }
theorem sim_pay {x : HL} {w : RH} {N : Nat} (hx : HI x N) (hs : Sim x w) {s : ST} (hg : goodT s = true) (h1 : s.kind = 6) (h2 : ¬ s.funds - wdS (foldB s.user) w.sp w.su < s.amount) : Sim (doN x s) (w.pay s) ∧ doB x s = true := by
  rw [hs.wd] at h2
  have h3 : s.amount ≤ s.funds - drawnF x (foldB s.user) := by omega
  rw [show doN x s = dsD x s by simp [doN, h1, h3]]
  have hg6 := good_six hg h1
  exact ⟨{
    v := hs.v
    ls := hs.ls
    lm := hs.lm
    r := by show w.R ++ [s] = x.red ++ [s]; rw [hs.r]
    us := hs.us
    um := hs.um
    wd := fun f => by
      show wdS f (w.sp ++ [foldB s.user]) (w.su ++ [s.amount]) = (MP.get (MP.put x.ds (foldB s.user) (drawnF x (foldB s.user) + s.amount) x.dc) f).getD 0
      rw [wdS_snoc f hs.sl.symm, hs.wd, get_put]
      by_cases e : f = foldB s.user
      · subst e; simp
      · rw [if_neg e, show decide (foldB s.user = f) = false from decide_eq_false fun h => e h.symm]
        show drawnF x f + 0 = drawnF x f; omega
    sl := by show (w.su ++ [s.amount]).length = (w.sp ++ [foldB s.user]).length; simp [hs.sl]
    su := fun n hn => by
      rcases List.mem_append.1 hn with h | h
      · exact hs.su n h
      · rw [List.mem_singleton] at h; subst h; omega
    cl := hs.cl }, by simp [doB, h1, h3]⟩
theorem sim_over {x : HL} {w : RH} {N : Nat} (hx : HI x N) (hs : Sim x w) {s : ST} (h1 : s.kind = 7) (h2 : mayR w s = true) {b : Int} (hb : bestR (liveR w s) (liveR w s).length b) : Sim (doN x s) (w.over s b) ∧ doB x s = true := by
  have h3 := h2
  rw [may_is hx hs] at h3
  rw [show doN x s = csD x s by simp [doN, h1, h3]]
  have hw : winR w (s.ar, s.an) = none := by
    simp only [mayR, Bool.and_eq_true, Bool.not_eq_true'] at h2
    have := h2.2.1
    cases hq : winR w (s.ar, s.an) with
    | none => rfl
    | some o => rw [hq] at this; cases this
  exact ⟨{
    v := hs.v
    ls := hs.ls
    lm := hs.lm
    r := by show w.R ++ [s] = x.red ++ [s]; rw [hs.r]
    us := hs.us
    um := hs.um
    wd := hs.wd
    sl := hs.sl
    su := hs.su
    cl := fun d => by
      show ((w.cl ++ [((s.ar, s.an), outAt (liveR w s) b)]).find? fun e => decide (e.1.1 = d.1) && decide (e.1.2 = d.2)).map (·.2) = MP.get (MP.put x.cs (s.ar, s.an) (outF x s) x.cc) d
      rw [out_is hx hs s hb, get_put, ← hs.cl d]
      have hwd : winR w d = (w.cl.find? fun e => decide (e.1.1 = d.1) && decide (e.1.2 = d.2)).map (·.2) := rfl
      rw [List.find?_append, hwd]
      by_cases e : d = (s.ar, s.an)
      · subst e
        have : w.cl.find? (fun e => decide (e.1.1 = (s.ar, s.an).1) && decide (e.1.2 = (s.ar, s.an).2)) = none := by
          rw [hwd] at hw
          cases hq : w.cl.find? (fun e => decide (e.1.1 = (s.ar, s.an).1) && decide (e.1.2 = (s.ar, s.an).2)) with
          | none => rfl
          | some o => rw [hq] at hw; cases hw
        rw [this, if_pos rfl]
        simp
      · rw [if_neg e]
        have hne : (decide (s.ar = d.1) && decide (s.an = d.2)) = false := by
          rw [Bool.eq_false_iff]
          intro h
          simp only [Bool.and_eq_true, decide_eq_true_eq] at h
          exact e (by rw [h.1, h.2])
        simp [hne] }, by simp [doB, h1, h3]⟩
end Go.Proofs

