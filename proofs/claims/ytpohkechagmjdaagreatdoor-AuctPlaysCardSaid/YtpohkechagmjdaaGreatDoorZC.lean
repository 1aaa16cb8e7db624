/- Part of the proof that the statement named in the last file holds: lemmas of the prover's own. No conditions. -/
import Derived.Test.YtpohkechagmjdaaGreatDoorZB
import Derived.Test.YtpohkechagmjdaaGreatDoorDC
namespace Go.Proofs
open Go Go.V Go.Lib
set_option maxRecDepth 100000
set_option linter.unusedVariables false

/-! ### What the document's own house tells -/
def depB (f : ByteArray) (t : ST) : Bool := decide (t.kind = 4) && decide (foldB t.user = f)
def depR (f : ByteArray) : List ST → Int
  | [] => 0
  | t :: l => (bif depB f t then t.amount else 0) + depR f l
theorem depR_snoc (f : ByteArray) : ∀ {l : List ST} {t : ST}, depR f (l ++ [t]) = depR f l + (bif depB f t then t.amount else 0)
  | [], t => by simp [depR]
  | a :: l, t => by
    simp only [List.cons_append, depR]
    rw [depR_snoc f]
    omega
theorem depR_bound (f : ByteArray) : ∀ {l : List ST}, (∀ t, t ∈ l → t.kind = 4 → 1 ≤ t.amount ∧ t.amount ≤ 1000000000) → 0 ≤ depR f l ∧ depR f l ≤ 1000000000 * l.length
  | [], _ => by simp [depR]
  | a :: l, h => by
    have h1 := h a (by simp)
    have h2 := depR_bound f (l := l) (fun n hn => h n (by simp [hn]))
    simp only [depR, List.length_cons]
    cases hb : depB f a
    · simp only [cond_false]; omega
    · have : a.kind = 4 := by simp only [depB, Bool.and_eq_true, decide_eq_true_eq] at hb; exact hb.1
      have h1 := h1 this
      simp only [cond_true]; omega
theorem addSm {a b : Int} {i n : Nat} (h0 : 0 ≤ a) (h1 : a ≤ 1000000000 * (i : Nat)) (h2 : 1 ≤ b ∧ b ≤ 1000000000) (hi : i ≤ n) (hn : n ≤ 1000) : IntKind.i64.wrap (a + b) = a + b := wrap64 (by omega)
structure RHD (w : RH) : Prop where
  lz : ∀ t, t ∈ w.L → t.user.size ≤ 100000000
  la : ∀ t, t ∈ w.L → t.kind = 4 → 1 ≤ t.amount ∧ t.amount ≤ 1000000000
def depT (w : RH) (u : ByteArray) : Int := min (depR (foldB u) w.L) 1125899906842624
theorem s_refDeposited (h : Nat → Option Obj) (hc : CaseH h) (w : RH) (q : RQ) (hk : RK w q) (hd : RHD w) (u : ByteArray) (hu : u.size ≤ 100000000) :
    Ctr Tryz.prog F_rostrumref24_House_Deposited [.ptr 0 0, .raw (.string u)] (hoR w q ++ [.heap h]) (fun r H => r = iv (depT w u) ∧ H = hoR w q ++ [.heap h]) := by
  refine i_rostrumref24_House_Deposited.spec follows ?_
  refine VLoop.mk Nat (fun i => [(0, .ptr 0 0), (1, .raw (.string u)), (5, iv (depR (foldB u) (w.L.take i))), (6, iv i)]) (fun _ => hoR w q ++ [.heap h]) (fun i => i ≤ w.L.length) (fun i => w.L.length - i) 0 [0, 1, 2, 3, 4, 5, 6, 7]
    ⟨Nat.zero_le _, rfl, rfl, rfl⟩ ?_
  rintro i hi g
  have hll := hk.ll
  refine And.intro (fun t1 => ?_) (fun t1 => ?_)
  · have t1 : (i : Int) < (w.L.length : Nat) := of_decide_eq_true t1
    have hil : i < w.L.length := Int.ofNat_lt.1 t1
    have hwi : IntKind.i64.wrap ((i : Int) + 1) = ((i + 1 : Nat) : Int) := wrapI hil hll
    have hx0 := hk.l.at (fun _ => rfl) hil (j := 0) (by decide)
    have hx12 := hk.l.at (fun _ => rfl) hil (j := 12) (by decide)
    have hx17 := hk.l.at (fun _ => rfl) hil (j := 17) (by decide)
    have hni : (0 : Int) ≤ (i : Int) ∧ (i : Int) < (w.L.length : Nat) ∧ q.l.o + w.L.length * 19 ≤ q.l.xs.length := ⟨Int.natCast_nonneg i, t1, RowG.room hk.l⟩
    have hb := depR_bound (foldB u) (l := w.L.take i) (fun n hn => hd.la n (List.mem_of_mem_take hn))
    rw [takeLen hi] at hb
    have hstep : depR (foldB u) (w.L.take (i + 1)) = depR (foldB u) (w.L.take i) + (bif depB (foldB u) w.L[i] then w.L[i].amount else 0) := by
      rw [← List.take_append_getElem hil]; exact depR_snoc _
    have hus := hd.lz _ (List.getElem_mem hil)
    have skip : depB (foldB u) w.L[i] = false → depR (foldB u) (w.L.take (i + 1)) = depR (foldB u) (w.L.take i) := fun e => by rw [hstep, e]; simp
    refine And.intro hni (Exists.intro _ (And.intro (by rw [Int.toNat_natCast]; exact hx0) ?_))
    refine And.intro (fun t2 => ?_) (fun t2 => ?_)
    · have t2 : decide (w.L[i].kind = 4) = true := t2
      refine And.intro hni (Exists.intro _ (And.intro (by rw [Int.toNat_natCast]; exact hx12) ?_))
      refine VCall.mk [7] (s_ref_Fold h hc w.L[i].user hus) ⟨rfl, rfl, rfl⟩ ?_
      rintro _ _ ⟨rfl, rfl⟩
      refine VCall.mk [7] (s_ref_Fold h hc u hu) ⟨rfl, rfl, rfl⟩ ?_
      rintro _ _ ⟨rfl, rfl⟩
      refine And.intro (fun t3 => ?_) (fun t3 => ?_)
      · rw [strB] at t3
        have t3 : decide (foldB w.L[i].user = foldB u) = true := t3
        have e : depB (foldB u) w.L[i] = true := by rw [depB, t2, t3]; rfl
        rw [e] at hstep
        have ham := hd.la _ (List.getElem_mem hil) (of_decide_eq_true t2)
        have hw := addSm hb.1 hb.2 ham hi hll
        refine And.intro hni (Exists.intro _ (And.intro (by rw [Int.toNat_natCast]; exact hx17) ?_))
        refine Exists.intro _ (And.intro hw ?_)
        refine Exists.intro _ (And.intro hwi ?_)
        exact Exists.intro (i + 1) (Exists.intro [0, 1, 2, 3, 4, 5, 6, 7] (And.intro ⟨hil, subLt hil⟩ ⟨by simp only [hstep]; rfl, rfl, rfl⟩))
      · rw [strB] at t3
        have t3 : decide (foldB w.L[i].user = foldB u) = false := t3
        have hstep := skip (by rw [depB, t2, t3]; rfl)
        refine Exists.intro _ (And.intro hwi ?_)
        exact Exists.intro (i + 1) (Exists.intro [0, 1, 2, 3, 4, 5, 6, 7] (And.intro ⟨hil, subLt hil⟩ ⟨by simp only [hstep]; rfl, rfl, rfl⟩))
    · have t2 : decide (w.L[i].kind = 4) = false := t2
      have hstep := skip (by rw [depB, t2]; rfl)
      refine Exists.intro _ (And.intro hwi ?_)
      exact Exists.intro (i + 1) (Exists.intro [0, 1, 2, 3, 4, 5, 6, 7] (And.intro ⟨hil, subLt hil⟩ ⟨by simp only [hstep]; rfl, rfl, rfl⟩))
  · have hil : i = w.L.length := Nat.le_antisymm hi (Int.ofNat_le.1 (Int.not_lt.1 (of_decide_eq_false t1)))
    have e : depR (foldB u) (w.L.take i) = depR (foldB u) w.L := by rw [hil, List.take_length]
    refine And.intro (fun t2 => ?_) (fun t2 => ?_)
    · have t2 := of_decide_eq_true t2
      rw [e] at t2
      have e2 : depT w u = 1125899906842624 := by unfold depT; omega
      exact VRet.mk [0, 1, 2, 3, 4, 5, 6, 7] (iv 1125899906842624) (hoR w q ++ [.heap h]) ⟨rfl, rfl, rfl⟩ ⟨by rw [e2], rfl⟩
    · have t2 := of_decide_eq_false t2
      rw [e] at t2
      have e2 : depT w u = depR (foldB u) (w.L.take i) := by unfold depT; rw [e]; omega
      exact VRet.mk [0, 1, 2, 3, 4, 5, 6, 7] (iv (depR (foldB u) (w.L.take i))) (hoR w q ++ [.heap h]) ⟨rfl, rfl, rfl⟩ ⟨by rw [e2], rfl⟩
theorem s_refBalance (h : Nat → Option Obj) (hc : CaseH h) (w : RH) (q : RQ) (hk : RK w q) (hd : RHD w) (hs : ∀ n, n ∈ w.su → 0 ≤ n ∧ n ≤ 1000000000) (u : ByteArray) (hu : u.size ≤ 100000000) :
    Ctr Tryz.prog F_rostrumref24_House_Balance [.ptr 0 0, .raw (.string u)] (hoR w q ++ [.heap h]) (fun r H => r = iv (depT w u - wdS (foldB u) w.sp w.su) ∧ H = hoR w q ++ [.heap h]) := by
  have hw : IntKind.i64.wrap (depT w u - wdS (foldB u) w.sp w.su) = depT w u - wdS (foldB u) w.sp w.su := by
    have h1 := depR_bound (foldB u) (l := w.L) hd.la
    have h2 := wdS_bound (foldB u) (l := w.sp) (m := w.su) hs
    have h3 := hk.sl
    have h4 := hk.pl
    have h5 : 0 ≤ depT w u ∧ depT w u ≤ 1125899906842624 := by unfold depT; omega
    exact wrapSub h5.1 h5.2 h2.1 h2.2 (by omega)
  refine i_rostrumref24_House_Balance.spec follows ?_
  refine VCall.mk [0, 1, 2, 3, 4, 5, 6, 7] (s_refDeposited h hc w q hk hd u hu) ⟨rfl, rfl, rfl⟩ ?_
  rintro _ _ ⟨rfl, rfl⟩
  refine VCall.mk [0, 1, 2, 3, 4, 5, 6, 7] (s_withdrawn h hc w q hk hs u hu) ⟨rfl, rfl, rfl⟩ ?_
  rintro _ _ ⟨rfl, rfl⟩
  refine Exists.intro _ (And.intro hw ?_)
  exact VRet.mk [0, 1, 2, 3, 4, 5, 6, 7] (iv (depT w u - wdS (foldB u) w.sp w.su)) (hoR w q ++ [.heap h]) ⟨rfl, rfl, rfl⟩ ⟨rfl, rfl⟩
theorem s_refUsers (w : RH) (q : RQ) : Ctr Tryz.prog F_rostrumref24_House_Users [.ptr 0 0] (hoR w q) (fun r H => r = .sl 3 q.u.o w.us.length q.u.c ∧ H = hoR w q) := by
  refine i_rostrumref24_House_Users.spec follows ?_
  exact VRet.mk [0, 1, 2, 3, 4, 5, 6] (.sl 3 q.u.o w.us.length q.u.c) (hoR w q) ⟨rfl, rfl, rfl⟩ ⟨rfl, rfl⟩
def openR (w : RH) (a : Int × Int) : Bool := (findR w 1 a).isSome && !(winR w a).isSome
theorem s_refOpen (w : RH) (q : RQ) (hk : RK w q) (a : Int × Int) : Ctr Tryz.prog F_rostrumref24_House_Open [.ptr 0 0, .agg (dcells a.1 a.2)] (hoR w q) (fun r H => r = bv (openR w a) ∧ H = hoR w q) := by
  have fin : ∀ (b : Bool) (l : List SO), b = openR w a → VRet 7 (bv b) (hoR w q ++ l) (fun r H => r = bv (openR w a) ∧ H = hoR w q) := by
    rintro b l rfl
    exact VRet.mk [0, 1, 2, 3, 4, 5, 6] _ (hoR w q) ⟨rfl, rfl, rfl⟩ ⟨rfl, rfl⟩
  have hW := s_refWinner w q hk a
  cases hwin : winR w a with
  | none =>
    rw [hwin] at hW
    refine i_rostrumref24_House_Open.spec follows ?_
    refine VCall.mk [0, 1, 2, 3, 4, 5, 6] (s_find w q hk 1 a) ⟨rfl, rfl, rfl⟩ ?_
    rintro _ _ ⟨rfl, rfl⟩
    refine VCall.mk [0, 1, 2, 3, 4, 5, 6] hW ⟨rfl, rfl, rfl⟩ ?_
    rintro _ _ ⟨rfl, rfl⟩
    refine And.intro (fun k => ?_) (fun k => ?_)
    · exact fin _ _ (by rw [openR, hwin, show (findR w 1 a).isSome = true from k]; rfl)
    · exact fin _ _ (by rw [openR, hwin, show (findR w 1 a).isSome = false from k]; rfl)
  | some o =>
    rw [hwin] at hW
    refine i_rostrumref24_House_Open.spec follows ?_
    refine VCall.mk [0, 1, 2, 3, 4, 5, 6] (s_find w q hk 1 a) ⟨rfl, rfl, rfl⟩ ?_
    rintro _ _ ⟨rfl, rfl⟩
    refine VCall.mk [0, 1, 2, 3, 4, 5, 6] hW ⟨rfl, rfl, rfl⟩ ?_
    rintro _ _ ⟨rfl, rfl⟩
    refine And.intro (fun k => ?_) (fun k => ?_)
    · exact fin _ _ (by rw [openR, hwin, show (findR w 1 a).isSome = true from k]; rfl)
    · exact fin _ _ (by rw [openR, hwin, show (findR w 1 a).isSome = false from k]; rfl)
end Go.Proofs

namespace Go.Proofs
open Go Go.V Go.Lib
set_option maxRecDepth 100000
set_option linter.unusedVariables false

def dotS (t : ST) : Int × Int := (t.rep, t.n)
def aucR (w : RH) : List (Int × Int) := (w.L.filter fun t => decide (t.kind = 1)).map dotS
def bidD (w : RH) (a : Int × Int) : List (Int × Int) := (bidsR w a w.v).map dotS
structure RDX where
  xs : List Value
  o : Nat
  c : Nat
  D : List (Int × Int)
  i : Nat
theorem small16' {n : Nat} (h : n ≤ 1000) : (n + 1) * 16 ≤ 1099511627776 := by omega
theorem mapTake {α β : Type} {f : α → β} {l : List α} {i : Nat} (h : i < l.length) : (l.take (i + 1)).map f = (l.take i).map f ++ [f l[i]] := by
  rw [← List.take_append_getElem h, List.map_append]; rfl
theorem s_refAuctions (w : RH) (q : RQ) (hk : RK w q) :
    Ctr Tryz.prog F_rostrumref24_House_Auctions [.ptr 0 0] (hoR w q)
      (fun r H => ∃ xs o c, r = .sl 7 o (aucR w).length c ∧ H = hoR w q ++ [.arr xs T_api_Dot] ∧ RowG dcl 2 xs o c (aucR w)) := by
  refine i_rostrumref24_House_Auctions.spec follows ?_
  refine VLoop.nil T_api_Dot [3] [] ⟨rfl, rfl⟩ ?_
  have hll := hk.ll
  refine VLoop.mk RDX (fun x => [(0, .ptr 0 0), (3, .sl 7 x.o x.D.length x.c), (4, iv x.i)]) (fun x => hoR w q ++ [.arr x.xs T_api_Dot])
    (fun x => x.i ≤ w.L.length ∧ x.D = ((w.L.take x.i).filter fun t => decide (t.kind = 1)).map dotS ∧ RowG dcl 2 x.xs x.o x.c x.D) (fun x => w.L.length - x.i) ⟨[], 0, 0, [], 0⟩ [0, 1, 2, 3, 4, 5, 6, 7]
    ⟨⟨Nat.zero_le _, rfl, RowG.nilS⟩, rfl, rfl, rfl⟩ ?_
  rintro ⟨xs, o, c, D, i⟩ ⟨hi, hD, hr⟩ g
  simp only at hi hD hr
  refine And.intro (fun t1 => ?_) (fun t1 => ?_)
  · have t1 : (i : Int) < (w.L.length : Nat) := of_decide_eq_true t1
    have hil : i < w.L.length := Int.ofNat_lt.1 t1
    have hwi : IntKind.i64.wrap ((i : Int) + 1) = ((i + 1 : Nat) : Int) := wrapI hil hll
    have hx := hk.l.cut (fun _ => rfl) hil
    have hx0 := hk.l.at (fun _ => rfl) hil (j := 0) (by decide)
    have hx1 := cut_sub hx 1 2 (by decide)
    have hft := filterTake (p := fun t : ST => decide (t.kind = 1)) hil
    have hni : (0 : Int) ≤ (i : Int) ∧ (i : Int) < (w.L.length : Nat) ∧ q.l.o + w.L.length * 19 ≤ q.l.xs.length := ⟨Int.natCast_nonneg i, t1, RowG.room hk.l⟩
    refine And.intro hni (Exists.intro _ (And.intro (by rw [Int.toNat_natCast]; exact hx0) ?_))
    refine And.intro (fun t2 => ?_) (fun t2 => ?_)
    · have t2 : decide (w.L[i].kind = 1) = true := t2
      have hDl : D.length ≤ 1000 := by rw [hD, List.length_map]; exact Nat.le_trans (List.length_filter_le _ _) (Nat.le_trans (List.length_take_le' _ _) hll)
      refine And.intro hni (Exists.intro _ (And.intro (by rw [Int.toNat_natCast]; exact hx1) ?_))
      refine And.intro ⟨⟨hr.1, hr.2.1, rfl⟩, ⟨rfl, rfl⟩, small16' hDl⟩ ?_
      intro xs' o' c' hz
      refine Exists.intro _ (And.intro hwi ?_)
      refine Exists.intro ⟨xs', o', c', D ++ [dotS w.L[i]], i + 1⟩ (Exists.intro [0, 1, 2, 3, 4, 5, 6, 9] (And.intro ⟨⟨hil, by simp only; rw [hft, t2, hD]; simp, RowG.snoc hr rfl hz.1 hz.2.1 hz.2.2⟩, subLt hil⟩ ⟨?_, rfl, rfl⟩))
      simp only [List.length_append, List.length_cons, List.length_nil]; rfl
    · have t2 : decide (w.L[i].kind = 1) = false := t2
      refine Exists.intro _ (And.intro hwi ?_)
      exact Exists.intro ⟨xs, o, c, D, i + 1⟩ (Exists.intro [0, 1, 2, 3, 4, 5, 6, 7] (And.intro ⟨⟨hil, by simp only; rw [hft, t2, hD]; simp, hr⟩, subLt hil⟩ ⟨rfl, rfl, rfl⟩))
  · have hil : i = w.L.length := Nat.le_antisymm hi (Int.ofNat_le.1 (Int.not_lt.1 (of_decide_eq_false t1)))
    rw [hil, List.take_length] at hD
    have hD : D = aucR w := hD
    subst hD
    exact VRet.mk [0, 1, 2, 3, 4, 5, 6, 7] (.sl 7 o (aucR w).length c) (hoR w q ++ [.arr xs T_api_Dot]) ⟨rfl, rfl, rfl⟩ ⟨xs, o, c, rfl, rfl, hr⟩
theorem s_refBidD (w : RH) (q : RQ) (hk : RK w q) (a : Int × Int) :
    Ctr Tryz.prog F_rostrumref24_House_Bids [.ptr 0 0, .agg (dcells a.1 a.2)] (hoR w q)
      (fun r H => ∃ xs o c, r = .sl 7 o (bidD w a).length c ∧ H = hoR w q ++ [.arr xs T_api_Dot] ∧ RowG dcl 2 xs o c (bidD w a)) := by
  refine i_rostrumref24_House_Bids.spec follows ?_
  refine VCall.mk [0, 1, 2, 3, 4, 5, 6] (s_refBids w q hk a w.v) ⟨rfl, rfl, rfl⟩ ?_
  rintro _ _ ⟨bs, bo, bc, rfl, rfl, hrb⟩
  have hBl : (bidsR w a w.v).length ≤ 1000 := Nat.le_trans (List.length_filter_le _ _) hk.ll
  refine VLoop.nil T_api_Dot [5] [] ⟨rfl, rfl⟩ ?_
  refine VLoop.mk RDX (fun x => [(5, .sl 8 x.o x.D.length x.c), (6, .sl 7 bo (bidsR w a w.v).length bc), (7, iv x.i)]) (fun x => hoR w q ++ [.arr bs T_rostrumref24_Step, .arr x.xs T_api_Dot])
    (fun x => x.i ≤ (bidsR w a w.v).length ∧ x.D = ((bidsR w a w.v).take x.i).map dotS ∧ RowG dcl 2 x.xs x.o x.c x.D) (fun x => (bidsR w a w.v).length - x.i) ⟨[], 0, 0, [], 0⟩ [0, 1, 2, 3, 4, 5, 6, 8, 9]
    ⟨⟨Nat.zero_le _, rfl, RowG.nilS⟩, rfl, rfl, rfl⟩ ?_
  rintro ⟨xs, o, c, D, i⟩ ⟨hi, hD, hr⟩ g
  simp only at hi hD hr
  refine And.intro (fun t1 => ?_) (fun t1 => ?_)
  · have t1 : (i : Int) < ((bidsR w a w.v).length : Nat) := of_decide_eq_true t1
    have hil : i < (bidsR w a w.v).length := Int.ofNat_lt.1 t1
    have hwi : IntKind.i64.wrap ((i : Int) + 1) = ((i + 1 : Nat) : Int) := wrapI hil hBl
    have hx := hrb.cut (fun _ => rfl) hil
    have hx1 := cut_sub hx 1 2 (by decide)
    have hft := mapTake (f := dotS) hil
    have hni : (0 : Int) ≤ (i : Int) ∧ (i : Int) < ((bidsR w a w.v).length : Nat) ∧ bo + (bidsR w a w.v).length * 19 ≤ bs.length := ⟨Int.natCast_nonneg i, t1, RowG.room hrb⟩
    have hDl : D.length ≤ 1000 := by rw [hD, List.length_map]; exact Nat.le_trans (List.length_take_le' _ _) hBl
    refine And.intro hni (Exists.intro _ (And.intro (by rw [Int.toNat_natCast]; exact hx1) ?_))
    refine And.intro ⟨⟨hr.1, hr.2.1, rfl⟩, ⟨rfl, rfl⟩, small16' hDl⟩ ?_
    intro xs' o' c' hz
    refine Exists.intro _ (And.intro hwi ?_)
    refine Exists.intro ⟨xs', o', c', D ++ [dotS (bidsR w a w.v)[i]], i + 1⟩ (Exists.intro [0, 1, 2, 3, 4, 5, 6, 7, 10] (And.intro ⟨⟨hil, by simp only; rw [hft, hD], RowG.snoc hr rfl hz.1 hz.2.1 hz.2.2⟩, subLt hil⟩ ⟨?_, rfl, rfl⟩))
    simp only [List.length_append, List.length_cons, List.length_nil]; rfl
  · have hil : i = (bidsR w a w.v).length := Nat.le_antisymm hi (Int.ofNat_le.1 (Int.not_lt.1 (of_decide_eq_false t1)))
    rw [hil, List.take_length] at hD
    have hD : D = bidD w a := hD
    subst hD
    exact VRet.mk [0, 1, 2, 3, 4, 5, 6, 8] (.sl 7 o (bidD w a).length c) (hoR w q ++ [.arr xs T_api_Dot]) ⟨rfl, rfl, rfl⟩ ⟨xs, o, c, rfl, rfl, hr⟩
def topV (l : List ST) (b : Int) : SV := bif decide (b < 0) then .tup [.agg (dcells 0 0), bv false] else .tup [.agg (dcells (l.getD b.toNat zeroT').rep (l.getD b.toNat zeroT').n), bv true]
theorem s_refTop (w : RH) (q : RQ) (hk : RK w q) (a : Int × Int) :
    Ctr Tryz.prog F_rostrumref24_House_Best [.ptr 0 0, .agg (dcells a.1 a.2)] (hoR w q)
      (fun r H => ∃ b, bestR (bidsR w a w.v) (bidsR w a w.v).length b ∧ r = topV (bidsR w a w.v) b ∧ H = hoR w q) := by
  refine i_rostrumref24_House_Best.spec follows ?_
  refine VCall.mk [0, 1, 2, 3, 4, 5, 6] (s_refBids w q hk a w.v) ⟨rfl, rfl, rfl⟩ ?_
  rintro _ _ ⟨bs, bo, bc, rfl, rfl, hrb⟩
  have hBl : (bidsR w a w.v).length ≤ 1000 := Nat.le_trans (List.length_filter_le _ _) hk.ll
  refine VCall.mk [9] (s_refBest (bidsR w a w.v) bs bo bc hrb hBl) ⟨rfl, rfl, rfl⟩ ?_
  rintro _ _ ⟨b, rfl, hb, rfl⟩
  refine And.intro (fun t2 => ?_) (fun t2 => ?_)
  · exact VRet.mk [0, 1, 2, 3, 4, 5, 6] (.tup [.agg (dcells 0 0), bv false]) (hoR w q) ⟨rfl, rfl, rfl⟩ ⟨b, hb, by rw [topV, show decide (b < 0) = true from t2]; rfl, rfl⟩
  · have t3 := t2
    rcases hb with ⟨rfl, _⟩ | ⟨k, rfl, hkl, hk2, hbest⟩
    · exact absurd (by decide) (of_decide_eq_false t2)
    have hb : bestR (bidsR w a w.v) (bidsR w a w.v).length (k : Int) := .inr ⟨k, rfl, hkl, hk2, hbest⟩
    have hx := hrb.cut (fun _ => rfl) hkl
    have hx1 := cut_sub hx 1 2 (by decide)
    have hni : (0 : Int) ≤ (k : Int) ∧ (k : Int) < ((bidsR w a w.v).length : Nat) ∧ bo + (bidsR w a w.v).length * 19 ≤ bs.length := ⟨Int.natCast_nonneg k, Int.ofNat_lt.2 hkl, RowG.room hrb⟩
    have e : (bidsR w a w.v).getD (k : Int).toNat zeroT' = (bidsR w a w.v)[k] := by rw [Int.toNat_natCast, List.getD_eq_getElem?_getD, List.getElem?_eq_getElem hkl]; rfl
    refine And.intro hni (Exists.intro _ (And.intro (by rw [Int.toNat_natCast]; exact hx1) ?_))
    exact VRet.mk [0, 1, 2, 3, 4, 5, 6] (.tup [.agg (dcells (bidsR w a w.v)[k].rep (bidsR w a w.v)[k].n), bv true]) (hoR w q) ⟨rfl, rfl, rfl⟩ ⟨k, hb, by rw [topV, show decide ((k : Int) < 0) = false from t3, e]; rfl, rfl⟩
end Go.Proofs

namespace Go.Proofs
open Go Go.V Go.Lib
set_option maxRecDepth 100000
set_option linter.unusedVariables false

/-! ### The two houses side by side -/
def RH.new : RH := ⟨fun _ => 0, [], [], [], [], [], []⟩
structure Sim (x : HL) (w : RH) : Prop where
  v : w.v = x.v
  ls : w.L.Pairwise fun a b => ltDD (dotS a) (dotS b)
  lm : ∀ s, s ∈ w.L ↔ MP.get x.bs (dotS s) = some s
  r : w.R = x.red
  us : w.us.Pairwise fun a b => bless a b = true
  um : ∀ f, f ∈ w.us ↔ (MP.get x.us f).isSome = true
  wd : ∀ f, wdS f w.sp w.su = drawnF x f
  sl : w.su.length = w.sp.length
  su : ∀ n, n ∈ w.su → 0 ≤ n ∧ n ≤ 1000000000
  cl : ∀ d, winR w d = MP.get x.cs d
theorem sim_new : Sim HL.new RH.new where
  v := rfl
  ls := List.Pairwise.nil
  lm := fun s => by show s ∈ [] ↔ MP.get [] _ = _; rw [get_nil]; simp
  r := rfl
  us := List.Pairwise.nil
  um := fun f => by show f ∈ [] ↔ (MP.get [] _).isSome = true; rw [get_nil]; simp
  wd := fun f => rfl
  sl := rfl
  su := by simp [RH.new]
  cl := fun d => rfl
theorem ltS_iff {a b : ST} : ltS a b = true ↔ ltDD (dotS a) (dotS b) := by simp [ltS, ltB, ltDD, dotS]
theorem bytesLess_lt : ∀ (x y : List UInt8), Op.bytesLess x y = decide (x < y)
  | [], [] => by simp [Op.bytesLess]
  | _ :: _, [] => by simp [Op.bytesLess]
  | [], _ :: _ => by simp [Op.bytesLess]
  | a :: x, b :: y => by
    rw [Op.bytesLess, bytesLess_lt x y]
    simp only [List.cons_lt_cons_iff]
    by_cases h1 : a < b <;> by_cases h2 : a = b <;> by_cases h3 : x < y <;> simp [h1, h2, h3]
theorem bless_iff {a b : ByteArray} : bless a b = true ↔ a.data.toList < b.data.toList := by
  rw [bless, bytesLess_lt, ByteArray.toList_eq, ByteArray.toList_eq, decide_eq_true_eq]
theorem bytes_ext {a b : ByteArray} (h : a.data.toList = b.data.toList) : a = b := by
  cases a with | mk a => cases b with | mk b => congr 1; exact Array.toList_inj.1 h
theorem bless_tr {a b c : ByteArray} (h1 : bless a b = true) (h2 : bless b c = true) : bless a c = true := by
  rw [bless_iff] at *; exact List.lt_trans h1 h2
theorem bless_tri {a b : ByteArray} (h : a ≠ b) (h1 : ¬ bless a b = true) : bless b a = true := by
  rw [bless_iff] at *
  rcases Decidable.em (b.data.toList < a.data.toList) with h2 | h2
  · exact h2
  · exact absurd (bytes_ext (List.le_antisymm h2 h1)) h
theorem bless_irr {a : ByteArray} : ¬ bless a a = true := by rw [bless_iff]; exact List.lt_irrefl _
/-! A row with one laid in. -/
theorem ins_pw {α : Type} {R : α → α → Prop} {l : List α} {s : α} {k : Nat} (tr : ∀ {a b c}, R a b → R b c → R a c) (hl : l.Pairwise R) (hk : k ≤ l.length) (lo : ∀ j (hj : j < l.length), j < k → R l[j] s) (hi : ∀ (h : k < l.length), R s l[k]) : (l.take k ++ [s] ++ l.drop k).Pairwise R := by
  have hs : ∀ b, b ∈ l.drop k → R s b := by
    intro b hb
    obtain ⟨j, hj, rfl⟩ := List.mem_iff_getElem.1 hb
    rw [List.length_drop] at hj
    rw [List.getElem_drop]
    have h1 := hi (by omega)
    rcases Nat.eq_zero_or_pos j with h0 | h0
    · subst h0; simpa using h1
    · exact tr h1 (List.pairwise_iff_getElem.1 hl k (k + j) (by omega) (by omega) (by omega))
  have ht : ∀ a, a ∈ l.take k → R a s := by
    intro a ha
    obtain ⟨j, hj, rfl⟩ := List.mem_iff_getElem.1 ha
    rw [List.length_take] at hj
    rw [List.getElem_take]
    exact lo j (by omega) (by omega)
  rw [List.append_assoc, List.pairwise_append]
  refine ⟨List.Pairwise.sublist (List.take_sublist _ _) hl, ?_, ?_⟩
  · rw [List.singleton_append, List.pairwise_cons]
    exact ⟨hs, List.Pairwise.sublist (List.drop_sublist _ _) hl⟩
  · intro a ha b hb
    rw [List.singleton_append, List.mem_cons] at hb
    rcases hb with rfl | hb
    · exact ht a ha
    · exact tr (ht a ha) (hs b hb)
theorem mem_ins {α : Type} {l : List α} {s : α} {k : Nat} (x : α) : x ∈ l.take k ++ [s] ++ l.drop k ↔ x = s ∨ x ∈ l := by
  have h : x ∈ l ↔ x ∈ l.take k ∨ x ∈ l.drop k := by rw [← List.mem_append, List.take_append_drop]
  rw [h]
  simp only [List.mem_append, List.mem_singleton]
  constructor
  · rintro ((h | h) | h)
    · exact .inr (.inl h)
    · exact .inl h
    · exact .inr (.inr h)
  · rintro (h | h | h)
    · exact .inl (.inr h)
    · exact .inl (.inl h)
    · exact .inr h
theorem refE_is {x : HL} {w : RH} (hs : Sim x w) (s : ST) : refE w s = blueE x s := by
  unfold refE blueE
  rw [hs.v, hs.r]
  have hh : (!goodT s || decide (4 < s.kind)) = (!goodT s || redT s) := by
    cases hg : goodT s with
    | false => rfl
    | true =>
      have h7 := (good_kind hg).2
      have : decide (4 < s.kind) = redT s := by
        unfold redT
        rw [show decide (s.kind ≤ 7) = true from decide_eq_true h7, Bool.and_true]
        exact decide_eq_decide.2 ⟨fun h => by omega, fun h => by omega⟩
      rw [this]
  rw [hh]
theorem refDE_is {x : HL} {w : RH} (hs : Sim x w) (s : ST) : refDE w s = doE x s := by
  unfold refDE doE gapT
  rw [hs.v, hs.r]
  have hh : (!goodT s || decide (s.kind < 5)) = (!goodT s || !redT s) := by
    cases hg : goodT s with
    | false => rfl
    | true =>
      have h7 := (good_kind hg).2
      have : decide (s.kind < 5) = !redT s := by
        unfold redT
        rw [show decide (s.kind ≤ 7) = true from decide_eq_true h7, Bool.and_true, ← decide_not]
        exact decide_eq_decide.2 ⟨fun h => by omega, fun h => by omega⟩
      rw [this]
  rw [hh]
theorem sim_blue {x : HL} {w : RH} {N : Nat} (hx : HI x N) (hs : Sim x w) {s : ST} (he : blueE x s = 0) {k : Nat} (hI : InsAt w.L s k) : Sim (blueN x s) (wB w s k) := by
  obtain ⟨g1, g2, g3, g4, g5, g6⟩ := blueE_0 he
  have hf : MP.get x.bs (s.rep, s.n) = none := hx.fresh g3
  rw [blueN_0 he]
  have hne : ∀ t, t ∈ w.L → dotS t ≠ dotS s := fun t ht e => by
    have := (hs.lm t).1 ht
    rw [e] at this
    rw [show MP.get x.bs (dotS s) = none from hf] at this; cases this
  exact {
    v := by show upv w.v s.rep.toNat s.n = upv x.v s.rep.toNat (x.v s.rep.toNat + 1); rw [hs.v, ← g4]
    ls := by
      refine ins_pw (fun h1 h2 => h1.trans h2) hs.ls hI.le (fun j hj hjk => ltS_iff.1 (hI.lo j hj hjk)) (fun h => ?_)
      have h1 := hI.hi h
      rcases ltDD.tri (hne _ (List.getElem_mem h)) with h2 | h2
      · rw [ltS_iff.2 h2] at h1; cases h1
      · exact h2
    lm := fun t => by
      show t ∈ insL w.L s k ↔ MP.get (MP.put x.bs (s.rep, s.n) s x.bc) (dotS t) = some t
      rw [insL, mem_ins, get_put]
      by_cases e : dotS t = (s.rep, s.n)
      · rw [if_pos e]
        constructor
        · rintro (h | h)
          · rw [h]
          · exact absurd e (hne t h)
        · intro h; exact .inl (Option.some.inj h).symm
      · rw [if_neg e]
        constructor
        · rintro (h | h)
          · subst h; exact absurd rfl e
          · exact (hs.lm t).1 h
        · intro h; exact .inr ((hs.lm t).2 h)
    r := hs.r
    us := hs.us
    um := hs.um
    wd := hs.wd
    sl := hs.sl
    su := hs.su
    cl := hs.cl }
/-! ### What they tell -/
theorem Sim.mem {x : HL} {w : RH} {N : Nat} (hx : HI x N) (hs : Sim x w) (t : ST) : t ∈ w.L ↔ ∃ e, e ∈ x.bs ∧ e.2.1 = t := by
  rw [hs.lm]
  constructor
  · intro h
    obtain ⟨e, h1, h2, h3⟩ := mem_of_get h
    exact ⟨e, h1, h3⟩
  · rintro ⟨e, h1, rfl⟩
    have := get_of_mem hx.bk h1
    rwa [(hx.be e h1).2.2.1] at this
theorem Sim.key {x : HL} {N : Nat} (hx : HI x N) {e : (Int × Int) × ST × Nat} (h : e ∈ x.bs) : e.1 = dotS e.2.1 := (hx.be e h).2.2.1
theorem ltDD_ne {a b : Int × Int} (h : ltDD a b) : a ≠ b := fun e => by subst e; exact ltDD.irr h
theorem bidD_is {x : HL} {w : RH} {N : Nat} (hx : HI x N) (hs : Sim x w) (a : Int × Int) (v : Nat → Int) : (bidsR w a v).map dotS = bidsF x.bs a v := by
  have hB := bidsF_is (a := a) (sv := v) hx.bk
  refine srt_ext ?_ hB.srt fun d => ?_
  · rw [List.pairwise_map]
    exact List.Pairwise.sublist List.filter_sublist hs.ls
  rw [hB.mem]
  rw [List.mem_map]
  have hcan : ∀ t, t ∈ w.L → (w.L.any (goneR v t) = true ↔ ∃ e, e ∈ x.bs ∧ canE v (dotS t) e = true) := by
    intro t ht
    rw [List.any_eq_true]
    constructor
    · rintro ⟨y, hy, hg⟩
      obtain ⟨e, h1, h2⟩ := (hs.mem hx y).1 hy
      refine ⟨e, h1, ?_⟩
      have hk := Sim.key hx h1
      subst h2
      simp only [goneR, Bool.and_eq_true, decide_eq_true_eq] at hg
      simp only [canE, Bool.and_eq_true, decide_eq_true_eq, hk]
      exact ⟨hg.2.2, hg.1, hg.2.1.1, hg.2.1.2⟩
    · rintro ⟨e, h1, h2⟩
      refine ⟨e.2.1, (hs.mem hx _).2 ⟨e, h1, rfl⟩, ?_⟩
      have hk := Sim.key hx h1
      simp only [canE, Bool.and_eq_true, decide_eq_true_eq, hk] at h2
      simp only [goneR, Bool.and_eq_true, decide_eq_true_eq]
      exact ⟨h2.2.1, ⟨h2.2.2.1, h2.2.2.2⟩, h2.1⟩
  constructor
  · rintro ⟨t, ht, rfl⟩
    obtain ⟨htL, hok⟩ := List.mem_filter.1 ht
    simp only [okR, Bool.and_eq_true, Bool.not_eq_true'] at hok
    obtain ⟨e, h1, h2⟩ := (hs.mem hx t).1 htL
    have hk := Sim.key hx h1
    refine ⟨⟨e, h1, by rw [hk, h2], ?_⟩, fun h => ?_⟩
    · have hb := hok.1
      subst h2
      simp only [bidR, Bool.and_eq_true, decide_eq_true_eq] at hb
      simp only [bidE, Bool.and_eq_true, decide_eq_true_eq, hk]
      exact ⟨hb.2.2, hb.1, hb.2.1⟩
    · rw [(hcan t htL).2 h] at hok
      exact absurd hok.2 (by decide)
  · rintro ⟨⟨e, h1, h2, h3⟩, h4⟩
    have hk := Sim.key hx h1
    have htL := (hs.mem hx e.2.1).2 ⟨e, h1, rfl⟩
    refine ⟨e.2.1, List.mem_filter.2 ⟨htL, ?_⟩, by rw [← hk, h2]⟩
    simp only [okR, Bool.and_eq_true, Bool.not_eq_true']
    refine ⟨?_, ?_⟩
    · simp only [bidE, Bool.and_eq_true, decide_eq_true_eq, hk] at h3
      simp only [bidR, Bool.and_eq_true, decide_eq_true_eq]
      exact ⟨h3.2.1, h3.2.2, h3.1⟩
    · rw [Bool.eq_false_iff]
      intro h
      apply h4
      rw [← h2, hk]
      exact (hcan _ htL).1 h
theorem regF_is {x : HL} {w : RH} {N : Nat} (hx : HI x N) (hs : Sim x w) (f : ByteArray) : regF w f = (MP.get x.us f).getD false := by
  have h1 : regF w f = true ↔ f ∈ w.us := by
    unfold regF
    rw [List.any_eq_true]
    constructor
    · rintro ⟨t, ht, e⟩
      rw [decide_eq_true_eq] at e
      subst e; exact ht
    · exact fun h => ⟨f, h, by simp⟩
  have h2 : (MP.get x.us f).getD false = true ↔ (MP.get x.us f).isSome = true := by
    cases hq : MP.get x.us f with
    | none => simp
    | some b =>
      obtain ⟨e, h1, h2, h3⟩ := mem_of_get hq
      have := hx.ue e h1
      rw [h3] at this; subst this; simp
  apply Bool.eq_iff_iff.2
  rw [h1, hs.um, h2]
theorem best_is {bs : MB} {l : List ST} {b : Int} (hb : bestR l l.length b) (ha : ∀ t, t ∈ l → amt bs (dotS t) = t.amount) (hl : l.Pairwise fun a b => ltDD (dotS a) (dotS b)) :
    (b = -1 ∧ bestF bs (l.map dotS) = none) ∨ ∃ (k : Nat) (hk : k < l.length), b = (k : Int) ∧ bestF bs (l.map dotS) = some (dotS l[k]) := by
  rcases hb with ⟨h1, h2⟩ | ⟨k, h1, h2, hk, h3, h4⟩
  · have : l = [] := List.eq_nil_of_length_eq_zero h2
    subst this; exact .inl ⟨h1, rfl⟩
  · refine .inr ⟨k, hk, h1, (BestO.eq ?_).symm⟩
    refine (⟨List.mem_map.2 ⟨l[k], List.getElem_mem hk, rfl⟩, ?_⟩ : dotS l[k] ∈ l.map dotS ∧ ∀ e, e ∈ l.map dotS → ¬ gtB bs e (dotS l[k]))
    intro e he
    obtain ⟨t, ht, rfl⟩ := List.mem_map.1 he
    obtain ⟨j, hj, rfl⟩ := List.mem_iff_getElem.1 ht
    unfold gtB
    rw [ha _ (List.getElem_mem hk), ha _ (List.getElem_mem hj)]
    have h5 := h3 j hj hj
    rintro (h | ⟨h, h6⟩)
    · omega
    · rcases Nat.lt_trichotomy j k with h7 | h7 | h7
      · have := h4 j hj h7; omega
      · subst h7; exact ltDD.irr h6
      · exact ltDD.irr ((List.pairwise_iff_getElem.1 hl k j hk hj h7).trans h6)
theorem Sim.amt {x : HL} {w : RH} (hs : Sim x w) {t : ST} (ht : t ∈ w.L) : Go.Proofs.amt x.bs (dotS t) = t.amount := by
  unfold Go.Proofs.amt; rw [(hs.lm t).1 ht]; rfl
theorem Sim.usr {x : HL} {w : RH} (hs : Sim x w) {t : ST} (ht : t ∈ w.L) : Go.Proofs.usr x.bs (dotS t) = t.user := by
  unfold Go.Proofs.usr; rw [(hs.lm t).1 ht]; rfl
theorem live_is {x : HL} {w : RH} {N : Nat} (hx : HI x N) (hs : Sim x w) (s : ST) : (liveR w s).map dotS = (bidsF x.bs (s.ar, s.an) s.seen).filter (regB x) := by
  rw [← bidD_is hx hs, List.filter_map, liveR]
  congr 1
  refine List.filter_congr fun t ht => ?_
  have htL := (List.mem_filter.1 ht).1
  show regF w (foldB t.user) = regB x (dotS t)
  rw [regB, hs.usr htL, regF_is hx hs]
theorem out_is {x : HL} {w : RH} {N : Nat} (hx : HI x N) (hs : Sim x w) (s : ST) {b : Int} (hb : bestR (liveR w s) (liveR w s).length b) : outAt (liveR w s) b = outF x s := by
  have hL : ∀ t, t ∈ liveR w s → t ∈ w.L := fun t ht => (List.mem_filter.1 (List.mem_filter.1 ht).1).1
  have hp : (liveR w s).Pairwise fun a b => ltDD (dotS a) (dotS b) := List.Pairwise.sublist (List.Sublist.trans List.filter_sublist List.filter_sublist) hs.ls
  unfold outF
  rw [← live_is hx hs]
  rcases best_is hb (fun t ht => hs.amt (hL t ht)) hp with ⟨h1, h2⟩ | ⟨k, hk, h1, h2⟩
  · rw [h2, h1]; rfl
  · have hm := hL _ (List.getElem_mem hk)
    rw [h2, h1, outAt_k hk]
    show _ = (⟨(dotS (liveR w s)[k]).1, (dotS (liveR w s)[k]).2, Go.Proofs.usr x.bs (dotS (liveR w s)[k]), Go.Proofs.amt x.bs (dotS (liveR w s)[k])⟩ : OC)
    rw [hs.usr hm, hs.amt hm]; rfl
theorem find_is {x : HL} {w : RH} {N : Nat} (hx : HI x N) (hs : Sim x w) (d : Int × Int) : (findR w 1 d).isSome = decide (((MP.get x.bs d).getD zeroT').kind = 1) := by
  apply Bool.eq_iff_iff.2
  rw [decide_eq_true_eq]
  unfold findR
  rw [List.find?_isSome]
  constructor
  · rintro ⟨t, ht, h⟩
    simp only [isD, Bool.and_eq_true, decide_eq_true_eq] at h
    have e : dotS t = d := by show (t.rep, t.n) = d; rw [h.1.1, h.1.2]
    rw [← e, (hs.lm t).1 ht]; exact h.2
  · intro h
    cases hq : MP.get x.bs d with
    | none => rw [hq] at h; exact absurd h (by decide)
    | some t =>
      rw [hq] at h
      obtain ⟨e, h1, h2, h3⟩ := mem_of_get hq
      have hk := Sim.key hx h1
      rw [h2, h3] at hk
      refine ⟨t, (hs.lm t).2 (by rw [← hk]; exact hq), ?_⟩
      simp only [isD, Bool.and_eq_true, decide_eq_true_eq]
      rw [hk]; exact ⟨⟨rfl, rfl⟩, h⟩
theorem may_is {x : HL} {w : RH} {N : Nat} (hx : HI x N) (hs : Sim x w) (s : ST) : mayR w s = mayEnd x s := by
  rw [mayR, mayEnd, find_is hx hs, hs.cl]
  cases decide (((MP.get x.bs (s.ar, s.an)).getD zeroT').kind = 1) <;> simp
theorem open_is {x : HL} {w : RH} {N : Nat} (hx : HI x N) (hs : Sim x w) (d : Int × Int) : openR w d = openF x d := by
  rw [openR, openF, find_is hx hs, hs.cl]
theorem auc_is {x : HL} {w : RH} {N : Nat} (hx : HI x N) (hs : Sim x w) : aucR w = aucF x := by
  have hn : ((x.bs.filter opE).map (·.1)).Nodup := List.Sublist.nodup (List.Sublist.map _ List.filter_sublist) hx.bk
  refine srt_ext ?_ (srt_sortD hn) fun d => ?_
  · show ((w.L.filter fun t => decide (t.kind = 1)).map dotS).Pairwise ltDD
    rw [List.pairwise_map]
    exact List.Pairwise.sublist List.filter_sublist hs.ls
  · rw [aucR, aucF, mem_sortD, List.mem_map, List.mem_map]
    constructor
    · rintro ⟨t, ht, rfl⟩
      obtain ⟨h1, h2⟩ := List.mem_filter.1 ht
      obtain ⟨e, h3, h4⟩ := (hs.mem hx t).1 h1
      have hk := Sim.key hx h3
      refine ⟨e, List.mem_filter.2 ⟨h3, ?_⟩, by rw [hk, h4]⟩
      subst h4; exact h2
    · rintro ⟨e, he, rfl⟩
      obtain ⟨h1, h2⟩ := List.mem_filter.1 he
      have hk := Sim.key hx h1
      exact ⟨e.2.1, List.mem_filter.2 ⟨(hs.mem hx _).2 ⟨e, h1, rfl⟩, h2⟩, hk.symm⟩
theorem depR_perm (f : ByteArray) {l m : List ST} (h : l.Perm m) : depR f l = depR f m := by
  induction h with
  | nil => rfl
  | cons x h ih => simp only [depR, ih]
  | swap x y l => simp only [depR]; omega
  | trans h1 h2 i1 i2 => rw [i1, i2]
theorem depR_map (f : ByteArray) : ∀ bs : MB, depR f (bs.map (·.2.1)) = depS f bs
  | [] => rfl
  | e :: bs => by simp only [List.map_cons, depR, depS, depR_map f bs]; rfl
theorem nodup_pw {α : Type} {R : α → α → Prop} (h : ∀ {a b}, R a b → a ≠ b) {l : List α} (hl : l.Pairwise R) : l.Nodup := List.Pairwise.imp (fun h' => h h') hl
theorem Sim.perm {x : HL} {w : RH} {N : Nat} (hx : HI x N) (hs : Sim x w) : (x.bs.map (·.2.1)).Perm w.L := by
  refine (List.perm_ext_iff_of_nodup ?_ (nodup_pw (fun h e => by subst e; exact ltDD.irr h) hs.ls)).2 fun t => by rw [hs.mem hx, List.mem_map]
  have h : x.bs.map (·.1) = (x.bs.map (·.2.1)).map dotS := by
    rw [List.map_map]
    exact List.map_congr_left fun e he => Sim.key hx he
  have h2 := hx.bk
  rw [h] at h2
  exact nodup_of_map _ h2
theorem dep_is {x : HL} {w : RH} {N : Nat} (hx : HI x N) (hs : Sim x w) (u : ByteArray) : depT w u = depF x u := by
  rw [depT, depF, ← depR_perm (foldB u) (hs.perm hx), depR_map]
/-! ### A red step -/
theorem good_red {s : ST} (h1 : goodT s = true) (h2 : redT s = true) : s.kind = 5 ∨ s.kind = 6 ∨ s.kind = 7 := by
  simp only [redT, Bool.and_eq_true, decide_eq_true_eq] at h2; omega
theorem us_put {x : HL} {w : RH} (hs : Sim x w) (f : ByteArray) (c : Nat) {us : List ByteArray} (h : ∀ g, g ∈ us ↔ g = f ∨ g ∈ w.us) (g : ByteArray) : g ∈ us ↔ (MP.get (MP.put x.us f true c) g).isSome = true := by
  rw [h, get_put, hs.um]
  by_cases e : g = f
  · simp [e]
  · simp [e]
theorem reg_mem {x : HL} {w : RH} {f : ByteArray} (h : regF w f = true) : f ∈ w.us := by
  unfold regF at h
  obtain ⟨t, ht, e⟩ := List.any_eq_true.1 h
  rw [decide_eq_true_eq] at e
  subst e; exact ht
theorem sim_no {x : HL} {w : RH} {N : Nat} (hx : HI x N) (hs : Sim x w) {s : ST} (h : s.kind = 5 ∧ regF w (foldB s.user) = true ∨ s.kind = 6 ∧ s.funds - wdS (foldB s.user) w.sp w.su < s.amount ∨ s.kind = 7 ∧ mayR w s = false) : Sim (doN x s) (w.did s) ∧ doB x s = false := by
  rcases h with ⟨h1, h2⟩ | ⟨h1, h2⟩ | ⟨h1, h2⟩
  · have h3 := h2
    rw [regF_is hx hs] at h3
    rw [show doN x s = usD x s by simp [doN, h1]]
    refine ⟨?_, by simp [doB, h1, h3]⟩
    have hm := reg_mem (x := x) h2
    have hset : ∀ g, g ∈ w.us ↔ g = foldB s.user ∨ g ∈ w.us := fun g => ⟨.inr, fun h => by
      rcases h with h | h
      · subst h; exact hm
      · exact h⟩
    exact { v := hs.v, ls := hs.ls, lm := hs.lm, r := by show w.R ++ [s] = x.red ++ [s]; rw [hs.r], us := hs.us, um := us_put hs _ _ hset, wd := hs.wd, sl := hs.sl, su := hs.su, cl := hs.cl }
  · rw [hs.wd] at h2
    have h3 : ¬ s.amount ≤ s.funds - drawnF x (foldB s.user) := by omega
    rw [show doN x s = x.did s by simp [doN, h1, h3]]
    exact ⟨{ v := hs.v, ls := hs.ls, lm := hs.lm, r := by show w.R ++ [s] = x.red ++ [s]; rw [hs.r], us := hs.us, um := hs.um, wd := hs.wd, sl := hs.sl, su := hs.su, cl := hs.cl }, by simp [doB, h1, h3]⟩
  · rw [may_is hx hs] at h2
    rw [show doN x s = x.did s by simp [doN, h1, h2]]
    exact ⟨{ v := hs.v, ls := hs.ls, lm := hs.lm, r := by show w.R ++ [s] = x.red ++ [s]; rw [hs.r], us := hs.us, um := hs.um, wd := hs.wd, sl := hs.sl, su := hs.su, cl := hs.cl }, by simp [doB, h1, h2]⟩
theorem sim_reg {x : HL} {w : RH} {N : Nat} (hx : HI x N) (hs : Sim x w) {s : ST} (h1 : s.kind = 5) (h2 : regF w (foldB s.user) = false) {k : Nat} (hI : InsU w.us (foldB s.user) k) : Sim (doN x s) (w.reg s k) ∧ doB x s = true := by
  have h3 := h2
  rw [regF_is hx hs] at h3
  rw [show doN x s = usD x s by simp [doN, h1]]
  refine ⟨?_, by simp [doB, h1, h3]⟩
  have hn : ∀ g, g ∈ w.us → g ≠ foldB s.user := fun g hg e => by
    subst e
    have : regF w (foldB s.user) = true := List.any_eq_true.2 ⟨_, hg, by simp⟩
    rw [this] at h2; cases h2
  exact {
    v := hs.v
    ls := hs.ls
    lm := hs.lm
    r := by show w.R ++ [s] = x.red ++ [s]; rw [hs.r]
    us := ins_pw (fun h1 h2 => bless_tr h1 h2) hs.us hI.le hI.lo (fun h => bless_tri (hn _ (List.getElem_mem h)) (by rw [hI.hi h]; decide))
    um := us_put hs _ _ (us := insU w.us (foldB s.user) k) (fun g => mem_ins g)
    wd := hs.wd
    sl := hs.sl
    su := hs.su
    cl := hs.cl }
theorem sim_pay {x : HL} {w : RH} {N : Nat} (hx : HI x N) (hs : Sim x w) {s : ST} (hg : goodT s = true) (h1 : s.kind = 6) (h2 : ¬ s.funds - wdS (foldB s.user) w.sp w.su < s.amount) : Sim (doN x s) (w.pay s) ∧ doB x s = true := by
  rw [hs.wd] at h2
  have h3 : s.amount ≤ s.funds - drawnF x (foldB s.user) := by omega
  rw [show doN x s = dsD x s by simp [doN, h1, h3]]
  have hg6 := good_six hg h1
  exact ⟨{
    v := hs.v
    ls := hs.ls
    lm := hs.lm
    r := by show w.R ++ [s] = x.red ++ [s]; rw [hs.r]
    us := hs.us
    um := hs.um
    wd := fun f => by
      show wdS f (w.sp ++ [foldB s.user]) (w.su ++ [s.amount]) = (MP.get (MP.put x.ds (foldB s.user) (drawnF x (foldB s.user) + s.amount) x.dc) f).getD 0
      rw [wdS_snoc f hs.sl.symm, hs.wd, get_put]
      by_cases e : f = foldB s.user
      · subst e; simp
      · rw [if_neg e, show decide (foldB s.user = f) = false from decide_eq_false fun h => e h.symm]
        show drawnF x f + 0 = drawnF x f; omega
    sl := by show (w.su ++ [s.amount]).length = (w.sp ++ [foldB s.user]).length; simp [hs.sl]
    su := fun n hn => by
      rcases List.mem_append.1 hn with h | h
      · exact hs.su n h
      · rw [List.mem_singleton] at h; subst h; omega
    cl := hs.cl }, by simp [doB, h1, h3]⟩
theorem sim_over {x : HL} {w : RH} {N : Nat} (hx : HI x N) (hs : Sim x w) {s : ST} (h1 : s.kind = 7) (h2 : mayR w s = true) {b : Int} (hb : bestR (liveR w s) (liveR w s).length b) : Sim (doN x s) (w.over s b) ∧ doB x s = true := by
  have h3 := h2
  rw [may_is hx hs] at h3
  rw [show doN x s = csD x s by simp [doN, h1, h3]]
  have hw : winR w (s.ar, s.an) = none := by
    simp only [mayR, Bool.and_eq_true, Bool.not_eq_true'] at h2
    have := h2.2.1
    cases hq : winR w (s.ar, s.an) with
    | none => rfl
    | some o => rw [hq] at this; cases this
  exact ⟨{
    v := hs.v
    ls := hs.ls
    lm := hs.lm
    r := by show w.R ++ [s] = x.red ++ [s]; rw [hs.r]
    us := hs.us
    um := hs.um
    wd := hs.wd
    sl := hs.sl
    su := hs.su
    cl := fun d => by
      show ((w.cl ++ [((s.ar, s.an), outAt (liveR w s) b)]).find? fun e => decide (e.1.1 = d.1) && decide (e.1.2 = d.2)).map (·.2) = MP.get (MP.put x.cs (s.ar, s.an) (outF x s) x.cc) d
      rw [out_is hx hs s hb, get_put, ← hs.cl d]
      have hwd : winR w d = (w.cl.find? fun e => decide (e.1.1 = d.1) && decide (e.1.2 = d.2)).map (·.2) := rfl
      rw [List.find?_append, hwd]
      by_cases e : d = (s.ar, s.an)
      · subst e
        have : w.cl.find? (fun e => decide (e.1.1 = (s.ar, s.an).1) && decide (e.1.2 = (s.ar, s.an).2)) = none := by
          rw [hwd] at hw
          cases hq : w.cl.find? (fun e => decide (e.1.1 = (s.ar, s.an).1) && decide (e.1.2 = (s.ar, s.an).2)) with
          | none => rfl
          | some o => rw [hq] at hw; cases hw
        rw [this, if_pos rfl]
        simp
      · rw [if_neg e]
        have hne : (decide (s.ar = d.1) && decide (s.an = d.2)) = false := by
          rw [Bool.eq_false_iff]
          intro h
          simp only [Bool.and_eq_true, decide_eq_true_eq] at h
          exact e (by rw [h.1, h.2])
        simp [hne] }, by simp [doB, h1, h3]⟩
end Go.Proofs

namespace Go.Proofs
open Go Go.V Go.Lib
set_option maxRecDepth 100000
set_option linter.unusedVariables false

theorem s_SameDots (l : List (Int × Int)) (hl : l.length ≤ 1000000) (xs ys : List Value) (o c o2 c2 : Nat) (hx : RowG dcl 2 xs o c l) (hy : RowG dcl 2 ys o2 c2 l) :
    Ctr Tryz.prog F_rostrumref7_SameDots [.sl 0 o l.length c, .sl 1 o2 l.length c2] [.arr xs T_api_Dot, .arr ys T_api_Dot] (fun r H => r = bv true ∧ H = [.arr xs T_api_Dot, .arr ys T_api_Dot]) := by
  refine i_rostrumref7_SameDots.spec follows ?_
  refine And.intro (fun k => absurd k (by simp)) (fun _ => ?_)
  refine VLoop.mk Nat (fun i => [(0, .sl 0 o l.length c), (1, .sl 1 o2 l.length c2), (5, iv i)]) (fun _ => [.arr xs T_api_Dot, .arr ys T_api_Dot]) (fun i => i ≤ l.length) (fun i => l.length - i) 0 [0, 1] ⟨Nat.zero_le _, rfl, rfl, rfl⟩ ?_
  rintro i hi g
  refine And.intro (fun t1 => ?_) (fun t1 => ?_)
  · have t1 : (i : Int) < (l.length : Nat) := of_decide_eq_true t1
    have hil : i < l.length := Int.ofNat_lt.1 t1
    have hwi : IntKind.i64.wrap ((i : Int) + 1) = ((i + 1 : Nat) : Int) := wrap64 (by omega)
    have hcx := hx.cut (fun _ => rfl) hil
    have hcy := hy.cut (fun _ => rfl) hil
    have hnx : (0 : Int) ≤ (i : Int) ∧ (i : Int) < (l.length : Nat) ∧ o + l.length * 2 ≤ xs.length := ⟨Int.natCast_nonneg i, t1, RowG.room hx⟩
    have hny : (0 : Int) ≤ (i : Int) ∧ (i : Int) < (l.length : Nat) ∧ o2 + l.length * 2 ≤ ys.length := ⟨Int.natCast_nonneg i, t1, RowG.room hy⟩
    refine And.intro hnx (Exists.intro _ (And.intro (by rw [Int.toNat_natCast]; exact hcx) ?_))
    refine And.intro hny (Exists.intro _ (And.intro (by rw [Int.toNat_natCast]; exact hcy) ?_))
    refine And.intro (fun k => absurd k (by simp)) (fun _ => ?_)
    refine Exists.intro _ (And.intro hwi ?_)
    exact Exists.intro (i + 1) (Exists.intro [0, 1] (And.intro ⟨hil, subLt hil⟩ ⟨rfl, rfl, rfl⟩))
  · exact VRet.mk [0, 1] (bv true) [.arr xs T_api_Dot, .arr ys T_api_Dot] ⟨rfl, rfl, rfl⟩ ⟨rfl, rfl⟩
theorem s_stp (s : ST) : Ctr Tryz.prog F_rostrumlaw24_stp [.agg (stcells s)] [] (fun r H => r = .agg (stcells s) ∧ H = []) := by
  refine i_rostrumlaw24_stp.spec follows ?_
  exact VRet.mk [] (.agg (stcells s)) [] ⟨rfl, rfl, rfl⟩ ⟨rfl, rfl⟩
def longT (s : ST) : Bool := decide ((100 : Int) < s.name.size) || decide ((100 : Int) < s.user.size)
theorem s_long (s : ST) : Ctr Tryz.prog F_rostrumlaw24_long [.agg (stcells s)] [] (fun x H => x = bv (longT s) ∧ H = []) := by
  have fin : ∀ (b : Bool) (l : List SO), b = longT s → VRet 0 (bv b) l (fun x H => x = bv (longT s) ∧ H = []) := by
    rintro b l rfl
    exact VRet.mk [] _ [] ⟨rfl, rfl, rfl⟩ ⟨rfl, rfl⟩
  refine i_rostrumlaw24_long.spec follows ?_
  refine And.intro (fun h => ?_) (fun h => ?_)
  · exact fin _ _ (by rw [longT, show decide ((100 : Int) < s.name.size) = false from h]; rfl)
  · exact fin _ _ (by rw [longT, show decide ((100 : Int) < s.name.size) = true from h]; rfl)
theorem long_not {s : ST} (h : longT s = false) : s.name.size ≤ 100 ∧ s.user.size ≤ 100 := by
  simp only [longT, Bool.or_eq_false_iff, decide_eq_false_iff_not] at h
  omega
/-! ### The users, sorted -/
theorem strs_ext : ∀ {l m : List (List UInt8)}, l.Pairwise (fun a b => a < b) → m.Pairwise (fun a b => a ≤ b) → m.Nodup → (∀ x, x ∈ l ↔ x ∈ m) → l = m
  | [], [], _, _, _, _ => rfl
  | [], b :: m, _, _, _, h => absurd ((h b).2 (by simp)) (by simp)
  | a :: l, [], _, _, _, h => absurd ((h a).1 (by simp)) (by simp)
  | a :: l, b :: m, hl, hm, hn, h => by
    have hl := List.pairwise_cons.1 hl
    have hm := List.pairwise_cons.1 hm
    have hn := List.nodup_cons.1 hn
    have hab : a = b := by
      rcases List.mem_cons.1 ((h a).1 (by simp)) with h1 | h1
      · exact h1
      · rcases List.mem_cons.1 ((h b).2 (by simp)) with h2 | h2
        · exact h2.symm
        · exact absurd (hl.1 b h2) (hm.1 a h1)
    subst hab
    congr 1
    refine strs_ext hl.2 hm.2 hn.2 fun x => ⟨fun hx => ?_, fun hx => ?_⟩
    · rcases List.mem_cons.1 ((h x).1 (List.mem_cons.2 (.inr hx))) with h1 | h1
      · subst h1; exact absurd (hl.1 x hx) (List.lt_irrefl _)
      · exact h1
    · rcases List.mem_cons.1 ((h x).2 (List.mem_cons.2 (.inr hx))) with h1 | h1
      · subst h1; exact absurd hx hn.1
      · exact h1
theorem users_is {x : HL} {w : RH} {N : Nat} (hx : HI x N) (hs : Sim x w) {d : List (List UInt8)} (hU : UsL x.us d) : w.us.map (fun t => t.data.toList) = d := by
  have hkt : (x.us.map ktx).Nodup := by
    have h := hx.uk
    have e : x.us.map ktx = (x.us.map (·.1)).map fun t => t.data.toList := by rw [List.map_map]; rfl
    rw [e]
    exact nodup_map_on h fun a b _ _ h => bytes_ext h
  refine strs_ext ?_ hU.2 (hU.1.nodup_iff.2 hkt) fun t => ?_
  · rw [List.pairwise_map]
    exact List.Pairwise.imp (fun h => bless_iff.1 h) hs.us
  · rw [hU.1.mem_iff, List.mem_map, List.mem_map]
    constructor
    · rintro ⟨f, hf, rfl⟩
      have h1 := (hs.um f).1 hf
      have h2 := get_mem.1 h1
      obtain ⟨e, he, h3⟩ := List.mem_map.1 h2
      exact ⟨e, he, by rw [← h3]⟩
    · rintro ⟨e, he, rfl⟩
      refine ⟨e.1, (hs.um e.1).2 (get_mem.2 (List.mem_map.2 ⟨e, he, rfl⟩)), rfl⟩
theorem users_row {x : HL} {w : RH} {N : Nat} (hx : HI x N) (hs : Sim x w) {d : List (List UInt8)} (hU : UsL x.us d) {xs : List Value} {o c : Nat} (hr : RowG scl 1 xs o c d) : RowG bcl 1 xs o c w.us ∧ x.us.length = w.us.length := by
  have h := users_is hx hs hU
  have hl : d.length = w.us.length := by rw [← h, List.length_map]
  have hf : d.flatMap scl = w.us.flatMap bcl := by
    rw [← h, List.flatMap_map]
    rfl
  refine ⟨⟨by rw [← hl]; exact hr.1, hr.2.1, by rw [← hl, ← hf]; exact hr.2.2⟩, ?_⟩
  rw [← hl, hU.1.length_eq, List.length_map]
theorem wonV_eq (o : Option OC) : wonV o = .tup [.agg (dcells (o.getD zeroO).br (o.getD zeroO).bn), .raw (.string (o.getD zeroO).user), iv (o.getD zeroO).amount, bv o.isSome] := by
  cases o <;> rfl
theorem bestV_eq (m : Option (Int × Int)) : bestV m = .tup [.agg (dcells (m.getD (0, 0)).1 (m.getD (0, 0)).2), bv m.isSome] := by
  cases m <;> rfl
theorem top_is {x : HL} {w : RH} {N : Nat} (hx : HI x N) (hs : Sim x w) (a : Int × Int) {b : Int} (hb : bestR (bidsR w a w.v) (bidsR w a w.v).length b) : topV (bidsR w a w.v) b = bestV (bestF x.bs (bidsF x.bs a x.v)) := by
  have hp : (bidsR w a w.v).Pairwise fun a b => ltDD (dotS a) (dotS b) := List.Pairwise.sublist List.filter_sublist hs.ls
  rw [← hs.v, ← bidD_is hx hs]
  rcases best_is hb (fun t ht => hs.amt (List.mem_filter.1 ht).1) hp with ⟨h1, h2⟩ | ⟨k, hk, h1, h2⟩
  · rw [h2, h1]; rfl
  · have e : (bidsR w a w.v).getD (k : Int).toNat zeroT' = (bidsR w a w.v)[k] := by rw [Int.toNat_natCast, List.getD_eq_getElem?_getD, List.getElem?_eq_getElem hk]; rfl
    rw [h2, h1, topV, e, show decide ((k : Int) < 0) = false from decide_eq_false (by omega)]; rfl
end Go.Proofs

namespace Go.Proofs
open Go Go.V Go.Lib
set_option maxRecDepth 100000
set_option linter.unusedVariables false

abbrev hoRo (w : RH) (q : RQ) : List SO := [.cells (vcells w.v ++ [.sl 7 q.l.o w.L.length q.l.c, .sl 8 q.r.o w.R.length q.r.c, .sl 9 q.u.o w.us.length q.u.c, .sl 10 q.p.o w.sp.length q.p.c, .sl 11 q.s.o w.su.length q.s.c, .sl 12 q.e.o w.cl.length q.e.c]) T_rostrumref24_House,
  .arr q.l.xs T_rostrumref24_Step, .arr q.r.xs T_rostrumref24_Step, .arr q.u.xs T_string, .arr q.p.xs T_string, .arr q.s.xs T_int64, .arr q.e.xs T_rostrumref24_outcome]
abbrev hoB (x : HL) (rx : List Value) (ro rc : Nat) (w : RH) (q : RQ) : List SO := [.cells (vcells x.v ++ [.mp 1, .sl 5 ro x.red.length rc, .mp 2, .mp 3, .mp 4]) T_auct_House,
  .map (ents encD encST x.bs) x.bc, .map (ents encT encB x.us) x.uc, .map (ents encT encN x.ds) x.dc, .map (ents encD encO x.cs) x.cc, .arr rx T_auct_Step,
  .cells (vcells w.v ++ [.sl 7 q.l.o w.L.length q.l.c, .sl 8 q.r.o w.R.length q.r.c, .sl 9 q.u.o w.us.length q.u.c, .sl 10 q.p.o w.sp.length q.p.c, .sl 11 q.s.o w.su.length q.s.c, .sl 12 q.e.o w.cl.length q.e.c]) T_rostrumref24_House,
  .arr q.l.xs T_rostrumref24_Step, .arr q.r.xs T_rostrumref24_Step, .arr q.u.xs T_string, .arr q.p.xs T_string, .arr q.s.xs T_int64, .arr q.e.xs T_rostrumref24_outcome]
set_option maxHeartbeats 2000000 in
theorem s_told (h : Nat → Option Obj) (hc : CaseH h) (x : HL) (N : Nat) (hx : HI x N) (hN : N ≤ 1000) (rx : List Value) (ro rc : Nat) (w : RH) (q : RQ) (hk : RK w q) (hs : Sim x w) (hd : RHD w) (u : ByteArray) (hu : u.size ≤ 100000000) (a : Int × Int) :
    Ctr Tryz.prog F_rostrumlaw24_told [.ptr 0 0, .ptr 6 0, .raw (.string u), .agg (dcells a.1 a.2)] (hoB x rx ro rc w q ++ [.heap h]) (fun r H => r = bv true ∧ H = hoB x rx ro rc w q ++ [.heap h]) := by
  have hW := s_refWinner w q hk a
  rw [hs.cl, wonV_eq] at hW
  have hT : Ctr Tryz.prog F_rostrumref24_House_Best [.ptr 0 0, .agg (dcells a.1 a.2)] (hoR w q) (fun r H => r = bestV (bestF x.bs (bidsF x.bs a x.v)) ∧ H = hoR w q) := by
    refine Ctr.weak (s_refTop w q hk a) ?_
    rintro _ _ ⟨b, hb, rfl, rfl⟩
    exact ⟨top_is hx hs a hb, rfl⟩
  rw [bestV_eq] at hT
  have hT1 := s_Best x hx.b hx.bk (Nat.le_trans hx.bl (Nat.le_trans hN (by decide))) rx ro rc a
  rw [bestV_eq] at hT1
  have hBal := s_refBalance h hc w q hk hd hs.su u hu
  rw [dep_is hx hs, hs.wd] at hBal
  have hDep := s_refDeposited h hc w q hk hd u hu
  rw [dep_is hx hs] at hDep
  have hOp := s_refOpen w q hk a
  rw [open_is hx hs] at hOp
  have hRA := s_refAuctions w q hk
  rw [auc_is hx hs] at hRA
  have hRB := s_refBidD w q hk a
  rw [bidD, bidD_is hx hs, hs.v] at hRB
  refine i_rostrumlaw24_told.spec follows ?_
  refine VCall.mk [0, 1, 2, 3, 4, 5] (s_Winner x rx ro rc a) ⟨rfl, rfl, rfl⟩ ?_
  rintro _ _ ⟨rfl, rfl⟩
  refine VCall.mk [6, 7, 8, 9, 10, 11, 12] hW ⟨rfl, rfl, rfl⟩ ?_
  rintro _ _ ⟨rfl, rfl⟩
  refine VCall.mk [0, 1, 2, 3, 4, 5] hT1 ⟨rfl, rfl, rfl⟩ ?_
  rintro _ _ ⟨rfl, rfl⟩
  refine VCall.mk [6, 7, 8, 9, 10, 11, 12] hT ⟨rfl, rfl, rfl⟩ ?_
  rintro _ _ ⟨rfl, rfl⟩
  refine And.intro (fun _ => ?_) (fun k => absurd k (by simp))
  refine And.intro (fun _ => ?_) (fun k => absurd k (by simp))
  refine And.intro (fun _ => ?_) (fun k => absurd k (by simp))
  refine And.intro (fun _ => ?_) (fun k => absurd k (by simp))
  refine And.intro (fun _ => ?_) (fun k => absurd k (by simp))
  refine And.intro (fun _ => ?_) (fun k => absurd k (by simp))
  refine VCall.mk [0, 1, 2, 3, 4, 5] (s_Have x rx ro rc) ⟨rfl, rfl, rfl⟩ ?_
  rintro _ _ ⟨rfl, rfl⟩
  refine And.intro rfl (And.intro rfl ?_)
  refine And.intro (fun _ => ?_) (fun k => absurd k (by simp [hs.v]))
  refine VCall.mk [0, 1, 2, 3, 4, 5] (s_Reds x rx ro rc) ⟨rfl, rfl, rfl⟩ ?_
  rintro _ _ ⟨rfl, rfl⟩
  refine And.intro rfl (And.intro rfl ?_)
  refine And.intro (fun _ => ?_) (fun k => absurd k (by simp [hs.r]))
  refine VCall.mk [0, 1, 2, 3, 4, 5, 13] (s_Balance h hc x N hx rx ro rc u hu) ⟨rfl, rfl, rfl⟩ ?_
  rintro _ _ ⟨rfl, rfl⟩
  refine VCall.mk [6, 7, 8, 9, 10, 11, 12, 13] hBal ⟨rfl, rfl, rfl⟩ ?_
  rintro _ _ ⟨rfl, rfl⟩
  refine And.intro (fun _ => ?_) (fun k => absurd k (by simp))
  refine VCall.mk [0, 1, 2, 3, 4, 5, 13] (s_Deposited h hc x N hx rx ro rc u hu) ⟨rfl, rfl, rfl⟩ ?_
  rintro _ _ ⟨rfl, rfl⟩
  refine VCall.mk [6, 7, 8, 9, 10, 11, 12, 13] hDep ⟨rfl, rfl, rfl⟩ ?_
  rintro _ _ ⟨rfl, rfl⟩
  refine And.intro (fun _ => ?_) (fun k => absurd k (by simp))
  refine VCall.mk [0, 1, 2, 3, 4, 5] (s_Open x rx ro rc a) ⟨rfl, rfl, rfl⟩ ?_
  rintro _ _ ⟨rfl, rfl⟩
  refine And.intro rfl ?_
  refine VCall.mk [6, 7, 8, 9, 10, 11, 12] hOp ⟨rfl, rfl, rfl⟩ ?_
  rintro _ _ ⟨rfl, rfl⟩
  refine And.intro (fun k => absurd k (by simp)) (fun _ => ?_)
  refine VCall.mk [0, 1, 2, 3, 4, 5] (s_Users x N hx (Nat.le_trans hN (by decide)) rx ro rc) ⟨rfl, rfl, rfl⟩ ?_
  rintro _ _ ⟨d, xs, o, c, hU, rfl, rfl, hrU⟩
  refine VCall.mk [6, 7, 8, 9, 10, 11, 12] (s_refUsers w q) ⟨rfl, rfl, rfl⟩ ?_
  rintro _ _ ⟨rfl, rfl⟩
  have hB := users_row hx hs hU hrU
  obtain ⟨hrow, hlen⟩ := hB
  refine And.intro (fun k => absurd k (by simp [hlen])) (fun _ => ?_)
  have hroom : o + x.us.length * 1 ≤ xs.length := by rw [hlen]; exact RowG.room hrow
  have hul := hk.ul
  refine VLoop.mk Nat (fun i => [(0, .ptr 0 0), (1, .ptr 6 0), (7, .ptr 14 0), (21, .sl 15 o x.us.length c), (22, .sl 9 q.u.o w.us.length q.u.c), (23, iv i)]) (fun _ => hoB x rx ro rc w q ++ [.heap h, .cells (dcells a.1 a.2) T_api_Dot, .arr xs T_string]) (fun i => i ≤ x.us.length) (fun i => x.us.length - i) 0 [0, 1, 2, 3, 4, 5, 6, 7, 8, 9, 10, 11, 12, 13, 14, 19]
    ⟨Nat.zero_le _, rfl, rfl, rfl⟩ ?_
  rintro i hi g
  refine And.intro (fun t1 => ?_) (fun t1 => ?_)
  · have t1 : (i : Int) < (x.us.length : Nat) := of_decide_eq_true t1
    have hil : i < w.us.length := hlen ▸ Int.ofNat_lt.1 t1
    have hil2 : i < x.us.length := Int.ofNat_lt.1 t1
    have hwi : IntKind.i64.wrap ((i : Int) + 1) = ((i + 1 : Nat) : Int) := wrapI hil hul
    have h1 := RowG.one hrow (fun _ => rfl) hil
    have h2 := RowG.one hk.u (fun _ => rfl) hil
    refine And.intro ⟨Int.natCast_nonneg i, t1, hroom⟩ (Exists.intro _ (And.intro (by rw [Int.toNat_natCast]; exact h1) ?_))
    refine And.intro ⟨Int.natCast_nonneg i, Int.ofNat_lt.2 hil, RowG.room hk.u⟩ (Exists.intro _ (And.intro (by rw [Int.toNat_natCast]; exact h2) ?_))
    refine And.intro (fun k => absurd k (by simp)) (fun _ => ?_)
    refine Exists.intro _ (And.intro hwi ?_)
    exact Exists.intro (i + 1) (Exists.intro [0, 1, 2, 3, 4, 5, 6, 7, 8, 9, 10, 11, 12, 13, 14, 15] (And.intro ⟨hil2, subLt hil2⟩ ⟨rfl, rfl, rfl⟩))
  · refine VCall.mk [0, 1, 2, 3, 4, 5] (s_Auctions x N hx (Nat.le_trans hN (by decide)) rx ro rc) ⟨rfl, rfl, rfl⟩ ?_
    rintro _ _ ⟨ys, o1, c1, rfl, rfl, hr1, hl1⟩
    refine VCall.mk [6, 7, 8, 9, 10, 11, 12] hRA ⟨rfl, rfl, rfl⟩ ?_
    rintro _ _ ⟨zs, o2, c2, rfl, rfl, hr2⟩
    refine VCall.mk [16, 17] (s_SameDots (aucF x) (Nat.le_trans hl1 (Nat.le_trans hN (by decide))) ys zs o1 c1 o2 c2 hr1 hr2) ⟨rfl, rfl, rfl⟩ ?_
    rintro _ _ ⟨rfl, rfl⟩
    refine And.intro (fun _ => ?_) (fun k => absurd k (by decide))
    refine VCall.mk [0, 1, 2, 3, 4, 5] (s_Bids x hx.b hx.bk (Nat.le_trans hx.bl (Nat.le_trans hN (by decide))) rx ro rc a) ⟨rfl, rfl, rfl⟩ ?_
    rintro _ _ ⟨ys2, o3, c3, rfl, rfl, hr3, hl3⟩
    refine And.intro rfl ?_
    refine VCall.mk [6, 7, 8, 9, 10, 11, 12] hRB ⟨rfl, rfl, rfl⟩ ?_
    rintro _ _ ⟨zs2, o4, c4, rfl, rfl, hr4⟩
    refine VCall.mk [18, 19] (s_SameDots (bidsF x.bs a x.v) (Nat.le_trans hl3 (Nat.le_trans hx.bl (Nat.le_trans hN (by decide)))) ys2 zs2 o3 c3 o4 c4 hr3 hr4) ⟨rfl, rfl, rfl⟩ ?_
    rintro _ _ ⟨rfl, rfl⟩
    exact VRet.mk [0, 1, 2, 3, 4, 5, 6, 7, 8, 9, 10, 11, 12, 13] (bv true) (hoB x rx ro rc w q ++ [.heap h]) ⟨rfl, rfl, rfl⟩ ⟨rfl, rfl⟩
end Go.Proofs

namespace Go.Proofs
open Go Go.V Go.Lib
set_option maxRecDepth 100000
set_option linter.unusedVariables false

/-! ### Rows of plain elements behind a slice that came in -/
def RowsIs {α : Type} (cl : α → List Value) (k : Nat) (h : Nat → Option Obj) (v : Value) (L : List α) : Prop := ((∃ a c, v = .slice a 0 c) ∧ L = []) ∨
  ∃ (b o c : Nat) (xs : List Value) (e : TypeId) (fr : Nat × Nat), v = .slice (some ⟨b, o, none⟩) L.length c ∧ h b = some (.cells xs.toArray e fr) ∧ ∀ i (hi : i < L.length), V.cut xs (o + i * k) k = some (cl L[i])
theorem RowsIs.shape {α : Type} {cl : α → List Value} {k : Nat} {h : Nat → Option Obj} {v : Value} {L : List α} (hv : RowsIs cl k h v L) : ∃ a c, v = .slice a L.length c := by
  rcases hv with ⟨⟨a, c, rfl⟩, rfl⟩ | ⟨b, o, c, xs, e, fr, rfl, _⟩
  · exact ⟨a, c, rfl⟩
  · exact ⟨_, c, rfl⟩
theorem RowsIs.at {α : Type} {cl : α → List Value} {k : Nat} {h : Nat → Option Obj} {a : Option Addr} {n c : Nat} {L : List α} (hv : RowsIs cl k h (.slice a n c) L) {i : Nat} (hi : i < L.length) :
    ∃ (b o : Nat) (xs : List Value) (e : TypeId) (fr : Nat × Nat), a = some ⟨b, o, none⟩ ∧ h b = some (.cells xs.toArray e fr) ∧ ∀ j (hj : j < L.length), V.cut xs (o + j * k) k = some (cl L[j]) := by
  rcases hv with ⟨h1, rfl⟩ | ⟨b, o, c, xs, e, fr, h1, h2, h3⟩
  · simp at hi
  · cases h1
    exact ⟨b, o, xs, e, fr, rfl, h2, h3⟩
theorem RowsIs.pos {α : Type} {cl : α → List Value} {k : Nat} {h : Nat → Option Obj} {a : Option Addr} {n c : Nat} {L : List α} (hv : RowsIs cl k h (.slice a n c) L) :
    ∃ (b o : Nat) (xs : List Value) (e : TypeId) (fr : Nat × Nat), 0 < L.length → a = some ⟨b, o, none⟩ ∧ h b = some (.cells xs.toArray e fr) ∧ ∀ j (hj : j < L.length), V.cut xs (o + j * k) k = some (cl L[j]) := by
  by_cases h0 : 0 < L.length
  · obtain ⟨b, o, xs, e, fr, h1⟩ := hv.at h0
    exact ⟨b, o, xs, e, fr, fun _ => h1⟩
  · exact ⟨0, 0, [], 0, (0, 0), fun h1 => absurd h1 h0⟩
theorem cut_one {xs : List Value} {o n : Nat} {l : List Value} (h : V.cut xs o n = some l) (j : Nat) (hj : j < n) : xs[o + j]? = l[j]? := ((cut_spec h).2 j hj).symm
theorem rhd_of {x : HL} {w : RH} {N : Nat} (hx : HI x N) (hs : Sim x w) : RHD w where
  lz := fun t ht => by
    obtain ⟨e, h1, rfl⟩ := (hs.mem hx t).1 ht
    exact (hx.be e h1).2.2.2.1
  la := fun t ht hk => by
    obtain ⟨e, h1, rfl⟩ := (hs.mem hx t).1 ht
    exact good_four (hx.be e h1).1 hk
theorem rhb_of {x : HL} {w : RH} {N : Nat} (hx : HI x N) (hs : Sim x w) : RHB w := ⟨hs.su, (rhd_of hx hs).lz⟩
structure PL (w : RH) (i : Nat) : Prop where
  l : w.L.length ≤ i
  r : w.R.length ≤ i
  u : w.us.length ≤ i
  p : w.sp.length ≤ i
  e : w.cl.length ≤ i
theorem PL.new : PL RH.new 0 := ⟨Nat.le_refl _, Nat.le_refl _, Nat.le_refl _, Nat.le_refl _, Nat.le_refl _⟩
theorem PL.mono {w : RH} {i : Nat} (h : PL w i) : PL w (i + 1) := ⟨Nat.le_succ_of_le h.l, Nat.le_succ_of_le h.r, Nat.le_succ_of_le h.u, Nat.le_succ_of_le h.p, Nat.le_succ_of_le h.e⟩
theorem PL.blue {w : RH} {i k : Nat} {s : ST} (h : PL w i) (hk : k ≤ w.L.length) : PL (wB w s k) (i + 1) :=
  ⟨by show (insL w.L s k).length ≤ i + 1; rw [insL_len hk]; have := h.l; omega, Nat.le_succ_of_le h.r, Nat.le_succ_of_le h.u, Nat.le_succ_of_le h.p, Nat.le_succ_of_le h.e⟩
theorem PL.did {w : RH} {i : Nat} {s : ST} (h : PL w i) : PL (w.did s) (i + 1) :=
  ⟨Nat.le_succ_of_le h.l, by show (w.R ++ [s]).length ≤ i + 1; have := h.r; simp; omega, Nat.le_succ_of_le h.u, Nat.le_succ_of_le h.p, Nat.le_succ_of_le h.e⟩
theorem PL.reg {w : RH} {i k : Nat} {s : ST} (h : PL w i) (hk : k ≤ w.us.length) : PL (w.reg s k) (i + 1) :=
  ⟨Nat.le_succ_of_le h.l, h.did.r, by show (insU w.us (foldB s.user) k).length ≤ i + 1; rw [insU_len hk]; have := h.u; omega, Nat.le_succ_of_le h.p, Nat.le_succ_of_le h.e⟩
theorem PL.pay {w : RH} {i : Nat} {s : ST} (h : PL w i) : PL (w.pay s) (i + 1) :=
  ⟨Nat.le_succ_of_le h.l, h.did.r, Nat.le_succ_of_le h.u, by show (w.sp ++ [foldB s.user]).length ≤ i + 1; have := h.p; simp; omega, Nat.le_succ_of_le h.e⟩
theorem PL.over {w : RH} {i : Nat} {s : ST} {b : Int} (h : PL w i) : PL (w.over s b) (i + 1) :=
  ⟨Nat.le_succ_of_le h.l, h.did.r, Nat.le_succ_of_le h.u, Nat.le_succ_of_le h.p, by show (w.cl ++ [((s.ar, s.an), outAt (liveR w s) b)]).length ≤ i + 1; have := h.e; simp; omega⟩
abbrev hoP2 (h : Nat → Option Obj) (d : Int × Int) (x : HL) (rx : List Value) (ro rc : Nat) (w : RH) (q : RQ) : List SO := [.heap h, .cells (vcells x.v ++ [.mp 2, .sl 6 ro x.red.length rc, .mp 3, .mp 4, .mp 5]) T_auct_House,
  .map (ents encD encST x.bs) x.bc, .map (ents encT encB x.us) x.uc, .map (ents encT encN x.ds) x.dc, .map (ents encD encO x.cs) x.cc, .arr rx T_auct_Step,
  .cells (vcells w.v ++ [.sl 8 q.l.o w.L.length q.l.c, .sl 9 q.r.o w.R.length q.r.c, .sl 10 q.u.o w.us.length q.u.c, .sl 11 q.p.o w.sp.length q.p.c, .sl 12 q.s.o w.su.length q.s.c, .sl 13 q.e.o w.cl.length q.e.c]) T_rostrumref24_House,
  .arr q.l.xs T_rostrumref24_Step, .arr q.r.xs T_rostrumref24_Step, .arr q.u.xs T_string, .arr q.p.xs T_string, .arr q.s.xs T_int64, .arr q.e.xs T_rostrumref24_outcome, .cells (dcells d.1 d.2) T_api_Dot]
structure PX where
  i : Nat
  x : HL
  rx : List Value
  ro : Nat
  rc : Nat
  w : RH
  q : RQ
structure PI (n : Nat) (y : PX) : Prop where
  hi : y.i ≤ n
  hx : HI y.x y.i
  hr : RowG stcl 19 y.rx y.ro y.rc y.x.red
  hs : Sim y.x y.w
  hk : RK y.w y.q
  pl : PL y.w y.i
def RQ.new : RQ := ⟨⟨[], 0, 0⟩, ⟨[], 0, 0⟩, ⟨[], 0, 0⟩, ⟨[], 0, 0⟩, ⟨[], 0, 0⟩, ⟨[], 0, 0⟩⟩
theorem RK.new : RK RH.new RQ.new := ⟨RowG.nilS, RowG.nilS, RowG.nilS, RowG.nilS, RowG.nilS, RowG.nilS, Nat.zero_le _, Nat.zero_le _, Nat.zero_le _, Nat.zero_le _, rfl, Nat.zero_le _⟩
theorem PI.new {n : Nat} : PI n ⟨0, HL.new, [], 0, 0, RH.new, RQ.new⟩ := ⟨Nat.zero_le _, HI.new, row0, sim_new, RK.new, PL.new⟩
theorem do_good {x : HL} {s : ST} (he : doE x s = 0) : goodT s = true := by
  unfold doE at he
  cases hg : goodT s with
  | true => rfl
  | false => rw [hg] at he; exact absurd he (by simp)
theorem lenB {k n i : Nat} (h1 : k ≤ n) (h2 : n ≤ i) (h3 : i < 40) : 0 + k + 1 + (n - k) ≤ 1000 := by omega
set_option maxHeartbeats 8000000 in
theorem s_AuctPlays (h : Nat → Option Obj) (hu : Uni h) (hc : CaseH h) (v : Value) (L : List ST) (hv : RowsIs stcl 19 h v L) (_ : True) (u : ByteArray) (d1 d2 : Int) :
    Ctr Tryz.prog F_rostrumlaw24_AuctPlays [.raw v, .raw (.string u), .agg (dcells d1 d2)] [.heap h] (fun r H => r = bv true ∧ H = [.heap h]) := by
  obtain ⟨a1, c1, rfl⟩ := hv.shape
  obtain ⟨b1, o1, xs1, e1, fr1, p1⟩ := hv.pos
  have fin : ∀ l : List SO, VRet 1 (bv true) (.heap h :: l) (fun r H => r = bv true ∧ H = [.heap h]) := fun l => VRet.mk [0] (bv true) [.heap h] ⟨rfl, rfl, rfl⟩ ⟨rfl, rfl⟩
  refine i_rostrumlaw24_AuctPlays.spec follows ?_
  refine VCall.mk [0] (s_awake h hu hc) ⟨rfl, rfl, rfl⟩ ?_
  rintro _ _ ⟨rfl, rfl⟩
  refine And.intro (fun k => absurd k (by decide)) (fun _ => ?_)
  refine And.intro (fun k1 => ?_) (fun k1 => fin _)
  have k1 : ¬ (40 : Int) < (L.length : Nat) := of_decide_eq_false k1
  refine And.intro (fun k2 => fin _) (fun k2 => ?_)
  have k2 : ¬ (100 : Int) < (u.size : Nat) := of_decide_eq_false k2
  have hu2 : u.size ≤ 100000000 := by omega
  refine VCall.mk [] s_New ⟨rfl, rfl, rfl⟩ ?_
  rintro _ _ ⟨rfl, rfl⟩
  refine VLoop.nil (H' := [.heap h, .cells (dcells d1 d2) T_api_Dot, .cells (vcells (fun _ => 0) ++ [.mp 3, .sl 7 0 0 0, .mp 4, .mp 5, .mp 6]) T_auct_House, .map [] 0, .map [] 0, .map [] 0, .map [] 0, .arr [] T_auct_Step, .cells (vcells (fun _ => 0) ++ [.sl 9 0 0 0, .raw (.slice none 0 0), .raw (.slice none 0 0), .raw (.slice none 0 0), .raw (.slice none 0 0), .raw (.slice none 0 0)]) T_rostrumref24_House]) T_rostrumref24_Step [] [(8, 7)] ⟨rfl, rfl⟩ ?_
  refine VLoop.nil (H' := [.heap h, .cells (dcells d1 d2) T_api_Dot, .cells (vcells (fun _ => 0) ++ [.mp 3, .sl 7 0 0 0, .mp 4, .mp 5, .mp 6]) T_auct_House, .map [] 0, .map [] 0, .map [] 0, .map [] 0, .arr [] T_auct_Step, .cells (vcells (fun _ => 0) ++ [.sl 9 0 0 0, .sl 10 0 0 0, .raw (.slice none 0 0), .raw (.slice none 0 0), .raw (.slice none 0 0), .raw (.slice none 0 0)]) T_rostrumref24_House, .arr [] T_rostrumref24_Step]) T_rostrumref24_Step [] [(8, 8)] ⟨rfl, rfl⟩ ?_
  refine VLoop.nil (H' := [.heap h, .cells (dcells d1 d2) T_api_Dot, .cells (vcells (fun _ => 0) ++ [.mp 3, .sl 7 0 0 0, .mp 4, .mp 5, .mp 6]) T_auct_House, .map [] 0, .map [] 0, .map [] 0, .map [] 0, .arr [] T_auct_Step, .cells (vcells (fun _ => 0) ++ [.sl 9 0 0 0, .sl 10 0 0 0, .sl 11 0 0 0, .raw (.slice none 0 0), .raw (.slice none 0 0), .raw (.slice none 0 0)]) T_rostrumref24_House, .arr [] T_rostrumref24_Step, .arr [] T_rostrumref24_Step]) T_string [] [(8, 9)] ⟨rfl, rfl⟩ ?_
  refine VLoop.nil (H' := [.heap h, .cells (dcells d1 d2) T_api_Dot, .cells (vcells (fun _ => 0) ++ [.mp 3, .sl 7 0 0 0, .mp 4, .mp 5, .mp 6]) T_auct_House, .map [] 0, .map [] 0, .map [] 0, .map [] 0, .arr [] T_auct_Step, .cells (vcells (fun _ => 0) ++ [.sl 9 0 0 0, .sl 10 0 0 0, .sl 11 0 0 0, .sl 12 0 0 0, .raw (.slice none 0 0), .raw (.slice none 0 0)]) T_rostrumref24_House, .arr [] T_rostrumref24_Step, .arr [] T_rostrumref24_Step, .arr [] T_string]) T_string [] [(8, 10)] ⟨rfl, rfl⟩ ?_
  refine VLoop.nil (H' := [.heap h, .cells (dcells d1 d2) T_api_Dot, .cells (vcells (fun _ => 0) ++ [.mp 3, .sl 7 0 0 0, .mp 4, .mp 5, .mp 6]) T_auct_House, .map [] 0, .map [] 0, .map [] 0, .map [] 0, .arr [] T_auct_Step, .cells (vcells (fun _ => 0) ++ [.sl 9 0 0 0, .sl 10 0 0 0, .sl 11 0 0 0, .sl 12 0 0 0, .sl 13 0 0 0, .raw (.slice none 0 0)]) T_rostrumref24_House, .arr [] T_rostrumref24_Step, .arr [] T_rostrumref24_Step, .arr [] T_string, .arr [] T_string]) T_int64 [] [(8, 11)] ⟨rfl, rfl⟩ ?_
  refine VLoop.nil (H' := [.heap h, .cells (dcells d1 d2) T_api_Dot, .cells (vcells (fun _ => 0) ++ [.mp 3, .sl 7 0 0 0, .mp 4, .mp 5, .mp 6]) T_auct_House, .map [] 0, .map [] 0, .map [] 0, .map [] 0, .arr [] T_auct_Step, .cells (vcells (fun _ => 0) ++ [.sl 9 0 0 0, .sl 10 0 0 0, .sl 11 0 0 0, .sl 12 0 0 0, .sl 13 0 0 0, .sl 14 0 0 0]) T_rostrumref24_House, .arr [] T_rostrumref24_Step, .arr [] T_rostrumref24_Step, .arr [] T_string, .arr [] T_string, .arr [] T_int64]) T_rostrumref24_outcome [] [(8, 12)] ⟨rfl, rfl⟩ ?_
  refine VLoop.mk PX (fun y => [(0, .raw (.slice a1 L.length c1)), (1, .raw (.string u)), (5, .ptr 14 0), (7, .ptr 1 0), (8, .ptr 7 0), (9, iv y.i)])
    (fun y => hoP2 h (d1, d2) y.x y.rx y.ro y.rc y.w y.q) (PI L.length) (fun y => L.length - y.i) ⟨0, HL.new, [], 0, 0, RH.new, RQ.new⟩ [0, 2, 3, 4, 5, 6, 7, 8, 9, 10, 11, 12, 13, 14, 1]
    ⟨PI.new, rfl, rfl, rfl⟩ ?_
  rintro ⟨i, x, rx, ro, rc, w, q⟩ ⟨hi, hx, hr, hs, hk, pl⟩ g
  simp only at hi hx hr hs hk pl
  refine And.intro (fun h1 => ?_) (fun h1 => fin _)
  have h1 : (i : Int) < (L.length : Nat) := of_decide_eq_true h1
  have hil : i < L.length := Int.ofNat_lt.1 h1
  have hL40 : L.length ≤ 40 := by clear hs hx hr hk pl; omega
  have hi40 : i < 40 := Nat.lt_of_lt_of_le hil hL40
  have hwi : IntKind.i64.wrap ((i : Int) + 1) = ((i + 1 : Nat) : Int) := wrapI hil (Nat.le_trans hL40 (by decide))
  have hN : i + 1 ≤ 1000 := Nat.le_trans hi40 (by decide)
  have q1 := p1 (Nat.lt_of_le_of_lt (Nat.zero_le _) hil)
  obtain ⟨rfl, hh1, hcut1⟩ := q1
  have ci := hcut1 i hil
  have hni : (0 : Int) ≤ (i : Int) ∧ (i : Int) < (L.length : Nat) := ⟨Int.natCast_nonneg i, h1⟩
  refine And.intro hni ?_
  refine Exists.intro 0 (Exists.intro xs1 (Exists.intro e1 (Exists.intro fr1 (And.intro hh1 (Exists.intro _ (And.intro (by rw [Int.toNat_natCast]; exact ci) ?_))))))
  refine VCall.mk [] (s_long L[i]) ⟨rfl, rfl, rfl⟩ ?_
  rintro _ _ ⟨rfl, rfl⟩
  refine And.intro (fun kl => ?_) (fun kl => ?_)
  rotate_left 1
  · have kl : longT L[i] = true := kl
    refine And.intro rfl ?_
    refine VCall.mk [] (s_long L[i]) ⟨rfl, rfl, rfl⟩ ?_
    rintro _ _ ⟨rfl, rfl⟩
    exact VRet.mk [0] (bv (longT L[i])) [.heap h] ⟨rfl, rfl, rfl⟩ ⟨by rw [kl], rfl⟩
  have kl : longT L[i] = false := kl
  have z12 := long_not kl
  obtain ⟨z1, z2⟩ := z12
  refine VCall.mk [0] (s_Good h hu L[i] (Nat.le_trans z1 (by decide)) (Nat.le_trans z2 (by decide))) ⟨rfl, rfl, rfl⟩ ?_
  rintro _ _ ⟨rfl, rfl⟩
  refine And.intro rfl ?_
  refine VCall.mk [] (s_stp L[i]) ⟨rfl, rfl, rfl⟩ ?_
  rintro _ _ ⟨rfl, rfl⟩
  refine VCall.mk [0] (s_refGood h hu L[i] (Nat.le_trans z1 (by decide)) (Nat.le_trans z2 (by decide))) ⟨rfl, rfl, rfl⟩ ?_
  rintro _ _ ⟨rfl, rfl⟩
  refine And.intro (fun k => absurd k (by simp)) (fun _ => ?_)
  refine VCall.mk [] (s_Red L[i]) ⟨rfl, rfl, rfl⟩ ?_
  rintro _ _ ⟨rfl, rfl⟩
  have hxm := hx.mono (Nat.le_succ i)
  refine And.intro (fun kr => ?_) (fun kr => ?_)
  · have hDo := s_refDo h hu hc w q hk (rhb_of hx hs) (Nat.lt_of_le_of_lt pl.r (Nat.lt_trans hi40 (by decide))) (Nat.lt_of_le_of_lt pl.u (Nat.lt_trans hi40 (by decide))) (Nat.lt_of_le_of_lt pl.p (Nat.lt_trans hi40 (by decide))) (Nat.lt_of_le_of_lt pl.e (Nat.lt_trans hi40 (by decide))) L[i] (Nat.le_trans z1 (by decide)) (Nat.le_trans z2 (by decide))
    have hqe := refDE_is hs L[i]
    refine VCall.mk [1, 2, 3, 4, 5, 6, 0] (s_Do h hu hc x i hx (Nat.le_trans (Nat.le_of_lt hi40) (by decide)) rx ro rc hr L[i] (Nat.le_trans z1 (by decide)) (Nat.le_trans z2 (by decide))) ⟨rfl, rfl, rfl⟩ ?_
    rintro _ _ (⟨he, rfl, rfl⟩ | ⟨he, rfl, rx2, ro2, rc2, hr2, rfl⟩)
    · refine VCall.mk [] (s_stp L[i]) ⟨rfl, rfl, rfl⟩ ?_
      rintro _ _ ⟨rfl, rfl⟩
      refine VCall.mk [7, 8, 9, 10, 11, 12, 13, 0] hDo ⟨rfl, rfl, rfl⟩ ?_
      intro v2 H2 hD
      cases hD with
      | bad hb =>
        refine And.intro (fun _ => ?_) (fun k => absurd k (by decide))
        refine And.intro (fun k => absurd k (by simp [hqe])) (fun _ => ?_)
        have hdd := rhd_of hxm hs
        refine VCall.mk [1, 2, 3, 4, 5, 6, 7, 8, 9, 10, 11, 12, 13, 0] (s_told h hc (x) (i + 1) hxm hN rx ro rc (w) (q) hk hs hdd u hu2 (d1, d2)) ⟨rfl, rfl, rfl⟩ ?_
        rintro _ _ ⟨rfl, rfl⟩
        refine And.intro (fun k => absurd k (by decide)) (fun _ => ?_)
        refine Exists.intro _ (And.intro hwi ?_)
        exact Exists.intro ⟨i + 1, x, rx, ro, rc, w, q⟩ (Exists.intro [0, 1, 2, 3, 4, 5, 6, 7, 8, 9, 10, 11, 12, 13, 14] (And.intro ⟨⟨hil, hxm, hr, hs, hk, pl.mono⟩, subLt hil⟩ ⟨rfl, rfl, rfl⟩))
      | no r h0 _ _ => exact absurd (hqe.symm.trans h0) he
      | reg r u k h0 _ _ _ _ => exact absurd (hqe.symm.trans h0) he
      | pay r p t h0 _ _ _ => exact absurd (hqe.symm.trans h0) he
      | over r e b h0 _ _ _ _ => exact absurd (hqe.symm.trans h0) he
    · have hx2 := hx.red he
      have hgd : goodT L[i] = true := do_good he
      refine VCall.mk [] (s_stp L[i]) ⟨rfl, rfl, rfl⟩ ?_
      rintro _ _ ⟨rfl, rfl⟩
      refine VCall.mk [7, 8, 9, 10, 11, 12, 13, 0] hDo ⟨rfl, rfl, rfl⟩ ?_
      intro v2 H2 hD
      cases hD with
      | bad hb => exact absurd (hqe.trans he) hb
      | no r h0 hw hkq =>
        have hsb := sim_no hx hs hw
        obtain ⟨hs2, hdb⟩ := hsb
        refine And.intro (fun _ => ?_) (fun k => absurd k (by simp [hdb]))
        refine And.intro (fun k => absurd k (by decide)) (fun _ => ?_)
        have hdd := rhd_of hx2 hs2
        refine VCall.mk [1, 2, 3, 4, 5, 16, 7, 8, 17, 10, 11, 12, 13, 0] (s_told h hc (doN x L[i]) (i + 1) hx2 hN rx2 ro2 rc2 (w.did L[i]) ({ q with r := r }) hkq hs2 hdd u hu2 (d1, d2)) ⟨rfl, rfl, rfl⟩ ?_
        rintro _ _ ⟨rfl, rfl⟩
        refine And.intro (fun k => absurd k (by decide)) (fun _ => ?_)
        refine Exists.intro _ (And.intro hwi ?_)
        exact Exists.intro ⟨i + 1, doN x L[i], rx2, ro2, rc2, w.did L[i], { q with r := r }⟩ (Exists.intro [0, 1, 2, 3, 4, 5, 16, 7, 8, 17, 10, 11, 12, 13, 14] (And.intro ⟨⟨hil, hx2, hr2, hs2, hkq, pl.did⟩, subLt hil⟩ ⟨rfl, rfl, rfl⟩))
      | reg r us k h0 h5 hf hI hkq =>
        have hsb := sim_reg hx hs h5 hf hI
        obtain ⟨hs2, hdb⟩ := hsb
        refine And.intro (fun _ => ?_) (fun k => absurd k (by simp [hdb]))
        refine And.intro (fun k => absurd k (by decide)) (fun _ => ?_)
        have hdd := rhd_of hx2 hs2
        refine VCall.mk [1, 2, 3, 4, 5, 16, 7, 8, 17, 18, 11, 12, 13, 0] (s_told h hc (doN x L[i]) (i + 1) hx2 hN rx2 ro2 rc2 (w.reg L[i] k) ({ q with r := r, u := us }) hkq hs2 hdd u hu2 (d1, d2)) ⟨rfl, rfl, rfl⟩ ?_
        rintro _ _ ⟨rfl, rfl⟩
        refine And.intro (fun k => absurd k (by decide)) (fun _ => ?_)
        refine Exists.intro _ (And.intro hwi ?_)
        exact Exists.intro ⟨i + 1, doN x L[i], rx2, ro2, rc2, w.reg L[i] k, { q with r := r, u := us }⟩ (Exists.intro [0, 1, 2, 3, 4, 5, 16, 7, 8, 17, 18, 11, 12, 13, 14] (And.intro ⟨⟨hil, hx2, hr2, hs2, hkq, pl.reg hI.le⟩, subLt hil⟩ ⟨rfl, rfl, rfl⟩))
      | pay r p t h0 h6 hf hkq =>
        have hsb := sim_pay hx hs hgd h6 hf
        obtain ⟨hs2, hdb⟩ := hsb
        refine And.intro (fun _ => ?_) (fun k => absurd k (by simp [hdb]))
        refine And.intro (fun k => absurd k (by decide)) (fun _ => ?_)
        have hdd := rhd_of hx2 hs2
        refine VCall.mk [1, 2, 3, 4, 5, 16, 7, 8, 17, 10, 18, 19, 13, 0] (s_told h hc (doN x L[i]) (i + 1) hx2 hN rx2 ro2 rc2 (w.pay L[i]) ({ q with r := r, p := p, s := t }) hkq hs2 hdd u hu2 (d1, d2)) ⟨rfl, rfl, rfl⟩ ?_
        rintro _ _ ⟨rfl, rfl⟩
        refine And.intro (fun k => absurd k (by decide)) (fun _ => ?_)
        refine Exists.intro _ (And.intro hwi ?_)
        exact Exists.intro ⟨i + 1, doN x L[i], rx2, ro2, rc2, w.pay L[i], { q with r := r, p := p, s := t }⟩ (Exists.intro [0, 1, 2, 3, 4, 5, 16, 7, 8, 17, 10, 18, 19, 13, 14] (And.intro ⟨⟨hil, hx2, hr2, hs2, hkq, pl.pay⟩, subLt hil⟩ ⟨rfl, rfl, rfl⟩))
      | over r e b h0 h7 hm hb hkq =>
        have hsb := sim_over hx hs h7 hm hb
        obtain ⟨hs2, hdb⟩ := hsb
        refine And.intro (fun _ => ?_) (fun k => absurd k (by simp [hdb]))
        refine And.intro (fun k => absurd k (by decide)) (fun _ => ?_)
        have hdd := rhd_of hx2 hs2
        refine VCall.mk [1, 2, 3, 4, 5, 16, 7, 8, 17, 10, 11, 12, 18, 0] (s_told h hc (doN x L[i]) (i + 1) hx2 hN rx2 ro2 rc2 (w.over L[i] b) ({ q with r := r, e := e }) hkq hs2 hdd u hu2 (d1, d2)) ⟨rfl, rfl, rfl⟩ ?_
        rintro _ _ ⟨rfl, rfl⟩
        refine And.intro (fun k => absurd k (by decide)) (fun _ => ?_)
        refine Exists.intro _ (And.intro hwi ?_)
        exact Exists.intro ⟨i + 1, doN x L[i], rx2, ro2, rc2, w.over L[i] b, { q with r := r, e := e }⟩ (Exists.intro [0, 1, 2, 3, 4, 5, 16, 7, 8, 17, 10, 11, 12, 18, 14] (And.intro ⟨⟨hil, hx2, hr2, hs2, hkq, pl.over⟩, subLt hil⟩ ⟨rfl, rfl, rfl⟩))
  · have hv : ∀ j, j < 7 → 0 ≤ w.v j ∧ w.v j ≤ 1099511627776 := by rw [hs.v]; exact hx.v
    have hBl := s_refBlue h hu w q hk hv L[i] (Nat.le_trans z1 (by decide)) (Nat.le_trans z2 (by decide))
    have hqe := refE_is hs L[i]
    refine VCall.mk [1, 2, 3, 4, 5, 6, 0] (s_Blue h hu x hx.v rx ro rc L[i] (Nat.le_trans z1 (by decide)) (Nat.le_trans z2 (by decide))) ⟨rfl, rfl, rfl⟩ ?_
    rintro _ _ ⟨rfl, rfl⟩
    refine And.intro rfl ?_
    refine VCall.mk [] (s_stp L[i]) ⟨rfl, rfl, rfl⟩ ?_
    rintro _ _ ⟨rfl, rfl⟩
    refine VCall.mk [7, 8, 9, 10, 11, 12, 13, 0] hBl ⟨rfl, rfl, rfl⟩ ?_
    have hxb := hx.blue (s := L[i]) (Nat.le_trans z2 (by decide))
    have hrb : RowG stcl 19 rx ro rc (blueN x L[i]).red := by rw [blue_red]; exact hr
    rintro _ _ (⟨hne, rfl, rfl⟩ | ⟨h0, rfl, k, ys, o2, c2, hI, hry, rfl⟩)
    · refine And.intro (fun k => absurd k (by simp [hqe])) (fun _ => ?_)
      have hbx : blueN x L[i] = x := blueN_1 (by rw [← hqe]; exact hne)
      have hsb : Sim (blueN x L[i]) w := by rw [hbx]; exact hs
      have hdd := rhd_of hxb hsb
      refine VCall.mk [1, 2, 3, 4, 5, 6, 7, 8, 9, 10, 11, 12, 13, 0] (s_told h hc (blueN x L[i]) (i + 1) hxb hN rx ro rc (w) (q) hk hsb hdd u hu2 (d1, d2)) ⟨rfl, rfl, rfl⟩ ?_
      rintro _ _ ⟨rfl, rfl⟩
      refine And.intro (fun k => absurd k (by decide)) (fun _ => ?_)
      refine Exists.intro _ (And.intro hwi ?_)
      exact Exists.intro ⟨i + 1, blueN x L[i], rx, ro, rc, w, q⟩ (Exists.intro [0, 1, 2, 3, 4, 5, 6, 7, 8, 9, 10, 11, 12, 13, 14] (And.intro ⟨⟨hil, hxb, hrb, hsb, hk, pl.mono⟩, subLt hil⟩ ⟨rfl, rfl, rfl⟩))
    · refine And.intro (fun k => absurd k (by simp [← hqe, h0])) (fun _ => ?_)
      have hsb := sim_blue hx hs (hqe.symm.trans h0) hI
      have hkb : RK (wB w L[i] k) { q with l := ⟨ys, o2, c2⟩ } := ⟨hry, hk.r, hk.u, hk.p, hk.s, hk.e, by show (insL w.L L[i] k).length ≤ 1000; rw [insL_len hI.le]; exact lenB hI.le pl.l hi40, hk.rl, hk.ul, hk.pl, hk.sl, hk.el⟩
      have hdd := rhd_of hxb hsb
      refine VCall.mk [1, 2, 3, 4, 5, 6, 7, 16, 9, 10, 11, 12, 13, 0] (s_told h hc (blueN x L[i]) (i + 1) hxb hN rx ro rc (wB w L[i] k) ({ q with l := ⟨ys, o2, c2⟩ }) hkb hsb hdd u hu2 (d1, d2)) ⟨rfl, rfl, rfl⟩ ?_
      rintro _ _ ⟨rfl, rfl⟩
      refine And.intro (fun k => absurd k (by decide)) (fun _ => ?_)
      refine Exists.intro _ (And.intro hwi ?_)
      exact Exists.intro ⟨i + 1, blueN x L[i], rx, ro, rc, wB w L[i] k, { q with l := ⟨ys, o2, c2⟩ }⟩ (Exists.intro [0, 1, 2, 3, 4, 5, 6, 7, 16, 9, 10, 11, 12, 13, 14] (And.intro ⟨⟨hil, hxb, hrb, hsb, hkb, (pl.blue hI.le)⟩, subLt hil⟩ ⟨rfl, rfl, rfl⟩))
end Go.Proofs

