/- Part of the proof that the statement named in the last file holds: lemmas of the prover's own. No conditions. -/
import Derived.Test.YtpohkechagmjdaaGreatDoorZA
namespace Go.Proofs
open Go Go.V Go.Lib
set_option maxRecDepth 100000
set_option linter.unusedVariables false

/-! ### The document's red steps -/
theorem bcl_len (x : ByteArray) : (bcl x).length = 1 := rfl
theorem bcl_ok (x : ByteArray) (l : List Value) (h : cellsOK l = true) : cellsOK (bcl x ++ l) = true := by simpa [cellsOK, bcl] using h
theorem ncl_len (x : Int) : (ncl x).length = 1 := rfl
theorem ncl_ok (x : Int) (l : List Value) (h : cellsOK l = true) : cellsOK (ncl x ++ l) = true := by simpa [cellsOK, ncl] using h
theorem ecl_len (x : (Int × Int) × OC) : (ecl x).length = 6 := rfl
theorem ecl_ok (x : (Int × Int) × OC) (l : List Value) (h : cellsOK l = true) : cellsOK (ecl x ++ l) = true := by simpa [cellsOK, ecl] using h
theorem rowHead {α : Type} {cl : α → List Value} {k : Nat} (hk : ∀ x, (cl x).length = k) (hc : ∀ x l, cellsOK l = true → cellsOK (cl x ++ l) = true) {xs : List Value} {o c : Nat} {l : List α} (h : RowG cl k xs o c l) {i : Nat} (hi : i ≤ l.length) :
    ((xs.drop o).take (i * k)).length = i * k ∧ cellsOK ((xs.drop o).take (i * k)) = true := by
  rw [RowG.pre hk h hi]; exact ⟨by rw [fm_len hk, List.length_take]; congr 1; omega, fm_ok hc _⟩
theorem rowTail {α : Type} {cl : α → List Value} {k : Nat} (hk : ∀ x, (cl x).length = k) (hc : ∀ x l, cellsOK l = true → cellsOK (cl x ++ l) = true) {xs : List Value} {o c : Nat} {l : List α} (h : RowG cl k xs o c l) {i o2 : Nat} (hi : i ≤ l.length) (ho : o2 = if c = (i : Int).toNat then o else o + (i : Int).toNat * k) :
    ((xs.drop o2).take ((l.length - i) * k)).length = (l.length - i) * k ∧ cellsOK ((xs.drop o2).take ((l.length - i) * k)) = true := by
  rw [RowG.post hk h hi ho]; exact ⟨by rw [fm_len hk, List.length_drop], fm_ok hc _⟩
theorem rowLeC {α : Type} {cl : α → List Value} {k : Nat} {xs : List Value} {o c : Nat} {l : List α} (h : RowG cl k xs o c l) {i : Nat} (hi : i ≤ l.length) : (i : Int) ≤ (c : Nat) := by have := h.1; omega
theorem takeLen {α : Type} {l : List α} {i : Nat} (hi : i ≤ l.length) : (l.take i).length = i := by rw [List.length_take]; omega
theorem smallA {i n : Nat} (h : i ≤ n) (hn : n ≤ 1000) : 0 + i ≤ 5000 := by omega
theorem smallB {i n : Nat} (h : i ≤ n) (hn : n ≤ 1000) : 0 + i + 1 ≤ 5000 := by omega
theorem smallC {i n : Nat} (h : i ≤ n) (hn : n ≤ 1000) : 0 + i + 1 + (n - i) ≤ 5000 := by omega
theorem small16 {n : Nat} (h : n ≤ 5000) : n * 16 ≤ 1099511627776 := by omega
def refDE (w : RH) (s : ST) : Int := bif !goodT s || decide (s.kind < 5) then 1 else bif !leB s.seen w.v || decide ((w.R.length : Int) < s.reds) then 8 else 0
def RH.did (w : RH) (s : ST) : RH := { w with R := w.R ++ [s] }
def bless (a b : ByteArray) : Bool := Op.bytesLess a.toList b.toList
structure InsU (us : List ByteArray) (f : ByteArray) (k : Nat) : Prop where
  le : k ≤ us.length
  lo : ∀ j (hj : j < us.length), j < k → bless us[j] f = true
  hi : ∀ (hk : k < us.length), bless us[k] f = false
def insU (us : List ByteArray) (f : ByteArray) (k : Nat) : List ByteArray := us.take k ++ [f] ++ us.drop k
theorem insU_len {us : List ByteArray} {f : ByteArray} {k : Nat} (h : k ≤ us.length) : (insU us f k).length = 0 + k + 1 + (us.length - k) := by
  simp [insU]; omega
def mayR (w : RH) (s : ST) : Bool := (findR w 1 (s.ar, s.an)).isSome && (!(winR w (s.ar, s.an)).isSome && has s.seen s.ar s.an)
def liveR (w : RH) (s : ST) : List ST := (bidsR w (s.ar, s.an) s.seen).filter fun t => regF w (foldB t.user)
def outAt (l : List ST) (b : Int) : OC := bif decide (0 ≤ b) then ⟨(l.getD b.toNat zeroT').rep, (l.getD b.toNat zeroT').n, (l.getD b.toNat zeroT').user, (l.getD b.toNat zeroT').amount⟩ else zeroO
abbrev hoRY (n n3 n4 n5 n6 : Nat) (w : RH) (q q0 : RQ) (i2 i3 i4 i5 i6 : Nat) : List SO := [.cells (vcells w.v ++ [.sl 1 q.l.o w.L.length q.l.c, .sl i2 q.r.o n q.r.c, .sl i3 q.u.o n3 q.u.c, .sl i4 q.p.o n4 q.p.c, .sl i5 q.s.o n5 q.s.c, .sl i6 q.e.o n6 q.e.c]) T_rostrumref24_House,
  .arr q0.l.xs T_rostrumref24_Step, .arr q0.r.xs T_rostrumref24_Step, .arr q0.u.xs T_string, .arr q0.p.xs T_string, .arr q0.s.xs T_int64, .arr q0.e.xs T_rostrumref24_outcome]
abbrev hoRX (w : RH) (q q0 : RQ) (i2 i3 i4 i5 i6 : Nat) : List SO := hoRY w.R.length w.us.length w.sp.length w.su.length w.cl.length w q q0 i2 i3 i4 i5 i6
def RH.reg (w : RH) (s : ST) (k : Nat) : RH := { w.did s with us := insU w.us (foldB s.user) k }
def RH.pay (w : RH) (s : ST) : RH := { w.did s with sp := w.sp ++ [foldB s.user], su := w.su ++ [s.amount] }
def RH.over (w : RH) (s : ST) (b : Int) : RH := { w.did s with cl := w.cl ++ [((s.ar, s.an), outAt (liveR w s) b)] }
inductive RDid (h : Nat → Option Obj) (w : RH) (q : RQ) (s : ST) : SV → List SO → Prop
  | bad : refDE w s ≠ 0 → RDid h w q s (.tup [bv false, iv (refDE w s)]) (hoR w q ++ [.heap h])
  | no (r : Rw) : refDE w s = 0 → (s.kind = 5 ∧ regF w (foldB s.user) = true ∨ s.kind = 6 ∧ s.funds - wdS (foldB s.user) w.sp w.su < s.amount ∨ s.kind = 7 ∧ mayR w s = false) →
      RK (w.did s) { q with r := r } → RDid h w q s (.tup [bv false, iv 0]) (hoRX (w.did s) { q with r := r } q 8 3 4 5 6 ++ [.heap h, .arr r.xs T_rostrumref24_Step])
  | reg (r u : Rw) (k : Nat) : refDE w s = 0 → s.kind = 5 → regF w (foldB s.user) = false → InsU w.us (foldB s.user) k → RK (w.reg s k) { q with r := r, u := u } →
      RDid h w q s (.tup [bv true, iv 0]) (hoRX (w.reg s k) { q with r := r, u := u } q 8 9 4 5 6 ++ [.heap h, .arr r.xs T_rostrumref24_Step, .arr u.xs T_string])
  | pay (r p t : Rw) : refDE w s = 0 → s.kind = 6 → ¬ s.funds - wdS (foldB s.user) w.sp w.su < s.amount → RK (w.pay s) { q with r := r, p := p, s := t } →
      RDid h w q s (.tup [bv true, iv 0]) (hoRX (w.pay s) { q with r := r, p := p, s := t } q 8 3 9 10 6 ++ [.heap h, .arr r.xs T_rostrumref24_Step, .arr p.xs T_string, .arr t.xs T_int64])
  | over (r e : Rw) (b : Int) : refDE w s = 0 → s.kind = 7 → mayR w s = true → bestR (liveR w s) (liveR w s).length b → RK (w.over s b) { q with r := r, e := e } →
      RDid h w q s (.tup [bv true, iv 0]) (hoRX (w.over s b) { q with r := r, e := e } q 8 3 4 5 9 ++ [.heap h, .arr r.xs T_rostrumref24_Step, .arr e.xs T_rostrumref24_outcome])
set_option maxHeartbeats 2000000 in
theorem s_refDo5 (h : Nat → Option Obj) (hu : Uni h) (hc : CaseH h) (w : RH) (q : RQ) (hk : RK w q) (hn : w.R.length < 1000) (hn2 : w.us.length < 1000) (s : ST) (h1 : s.name.size ≤ 1000) (h2 : s.user.size ≤ 1000) (h5 : s.kind = 5) :
    Ctr Tryz.prog F_rostrumref24_House_Do [.ptr 0 0, .agg (stcells s)] (hoR w q ++ [.heap h]) (RDid h w q s) := by
  have hkD : ∀ zs o c, RowG stcl 19 zs o c (w.R ++ [s]) → RK (w.did s) { q with r := ⟨zs, o, c⟩ } := fun zs o c hr =>
    ⟨hk.l, hr, hk.u, hk.p, hk.s, hk.e, hk.ll, by show (w.R ++ [s]).length ≤ 1000; simp; omega, hk.ul, hk.pl, hk.sl, hk.el⟩
  have hkU : ∀ zs o c, RowG stcl 19 zs o c (w.R ++ [s]) → ∀ k zs2 o2 c2, InsU w.us (foldB s.user) k → RowG bcl 1 zs2 o2 c2 (insU w.us (foldB s.user) k) → RK (w.reg s k) { q with r := ⟨zs, o, c⟩, u := ⟨zs2, o2, c2⟩ } := fun zs o c hr k zs2 o2 c2 hI hr2 =>
    ⟨hk.l, hr, hr2, hk.p, hk.s, hk.e, hk.ll, by show (w.R ++ [s]).length ≤ 1000; simp; omega, by show (insU w.us (foldB s.user) k).length ≤ 1000; rw [insU_len hI.le]; have := hI.le; omega, hk.pl, hk.sl, hk.el⟩
  have fin : ∀ (e : Int) (l : List SO), e ≠ 0 → refDE w s = e → VRet 8 (.tup [bv false, iv e]) (hoR w q ++ .heap h :: l) (RDid h w q s) := by
    intro e l he hb
    subst hb
    exact VRet.mk [0, 1, 2, 3, 4, 5, 6, 7] (.tup [bv false, iv (refDE w s)]) (hoR w q ++ [.heap h]) ⟨rfl, rfl, rfl⟩ (.bad he)
  have finNo : ∀ (n : Nat) (zs : List Value) (o c : Nat) (Z A B C : SO) (l : List SO), refDE w s = 0 → (s.kind = 5 ∧ regF w (foldB s.user) = true ∨ s.kind = 6 ∧ s.funds - wdS (foldB s.user) w.sp w.su < s.amount ∨ s.kind = 7 ∧ mayR w s = false) → n = (w.R ++ [s]).length → RowG stcl 19 zs o c (w.R ++ [s]) →
      VRet 8 (.tup [bv false, iv 0]) (hoRY n w.us.length w.sp.length w.su.length w.cl.length w { q with r := ⟨zs, o, c⟩ } q 12 3 4 5 6 ++ [.heap h, Z, A, B, C, .arr zs T_rostrumref24_Step] ++ l) (RDid h w q s) := by
    rintro _ zs o c Z A B C l he hw rfl hr
    exact VRet.mk [0, 1, 2, 3, 4, 5, 6, 7, 12] (.tup [bv false, iv 0]) (hoRX (w.did s) { q with r := ⟨zs, o, c⟩ } q 8 3 4 5 6 ++ [.heap h, .arr zs T_rostrumref24_Step]) ⟨rfl, rfl, rfl⟩ (.no ⟨zs, o, c⟩ he hw (hkD zs o c hr))
  refine i_rostrumref24_House_Do.spec follows ?_
  refine VCall.mk [7] (s_refGood h hu s h1 h2) ⟨rfl, rfl, rfl⟩ ?_
  rintro _ _ ⟨rfl, rfl⟩
  refine And.intro (fun k1 => ?_) (fun k1 => fin 1 _ (by decide) (by have k1 := nT k1; rw [refDE, k1]; rfl))
  have k1 := nF k1
  refine And.intro (fun k2 => fin 1 _ (by decide) (by rw [refDE, show decide (s.kind < 5) = true from k2]; simp)) (fun k2 => ?_)
  have k2 : decide (s.kind < 5) = false := k2
  refine VCall.mk [] (s_ref_Le s.seen w.v) ⟨rfl, rfl, rfl⟩ ?_
  rintro _ _ ⟨rfl, rfl⟩
  refine And.intro (fun k3 => ?_) (fun k3 => fin 8 _ (by decide) (by have k3 := nT k3; rw [refDE, k1, k2, k3]; rfl))
  have k3 := nF k3
  refine And.intro (fun k4 => fin 8 _ (by decide) (by rw [refDE, k1, k2, k3, show decide ((w.R.length : Int) < s.reds) = true from k4]; rfl)) (fun k4 => ?_)
  have he : refDE w s = 0 := by rw [refDE, k1, k2, k3, show decide ((w.R.length : Int) < s.reds) = false from k4]; rfl
  have hP : (q.r.xs.drop q.r.o).take (w.R.length * 19) = w.R.flatMap stcl := hk.r.2.2
  have dP : (List.take (w.R.length * 19) (List.drop q.r.o q.r.xs)).length = w.R.length * 19 ∧ cellsOK (List.take (w.R.length * 19) (List.drop q.r.o q.r.xs)) = true := by
    rw [hP]; exact ⟨fm_len stcl_len _, fm_ok stcl_ok _⟩
  have hb1 : (0 + w.R.length) * 168 ≤ 1099511627776 := by have := hk.rl; omega
  have hb2 : (0 + w.R.length + 1) * 168 ≤ 1099511627776 := by have := hk.rl; omega
  have nil0 : RowG stcl 19 [] 0 0 [] := RowG.nilS
  have hlR : (w.R ++ [s]).length = 0 + w.R.length + 1 := by simp
  refine And.intro ?a ?b
  case a =>
    refine And.intro rfl (And.intro rfl (And.intro rfl ?_))
    refine And.intro ?c ?d
    case c =>
      refine And.intro ⟨⟨Nat.zero_le _, by simp, rfl⟩, dP, hb1⟩ ?_
      intro zs1 o1 c1 hz1
      have hr1 := RowG.app nil0 rfl rfl hP hz1.1 hz1.2.1 hz1.2.2
      refine And.intro rfl ?_
      refine And.intro ⟨⟨hz1.1, hz1.2.1, rfl⟩, ⟨rfl, rfl⟩, hb2⟩ ?_
      intro zs2 o2 c2 hz2
      have hr2 := RowG.snoc (x := s) hr1 (by simp) hz2.1 hz2.2.1 hz2.2.2
      refine And.intro (fun k7 => ?_) (fun k7 => absurd (of_decide_eq_false k7) (fun k => k h5))
      have hr3 : RowG stcl 19 zs2 o2 c2 (w.R ++ [s]) := hr2
      have hE := s_Registered h hc (w.did s) { q with r := ⟨zs2, o2, c2⟩ } (hkD zs2 o2 c2 hr3) s.user (Nat.le_trans h2 (by decide))
      simp only [hoR, RH.did, hlR] at hE
      refine VCall.mk [0, 1, 12, 3, 4, 5, 6, 7] hE ⟨rfl, rfl, rfl⟩ ?_
      rintro _ _ ⟨rfl, rfl⟩
      refine And.intro (fun k8 => ?_) (fun k8 => ?_)
      · exact finNo _ zs2 o2 c2 _ _ _ _ _ he (.inl ⟨h5, k8⟩) hlR.symm hr3
      refine VCall.mk [7] (s_ref_Fold h hc s.user (Nat.le_trans h2 (by decide))) ⟨rfl, rfl, rfl⟩ ?_
      rintro _ _ ⟨rfl, rfl⟩
      have hul := hk.ul
      have finReg : ∀ (k n : Nat) (xs : List Value) (o c : Nat) (Z A B C D : SO) (l : List SO), InsU w.us (foldB s.user) k → n = 0 + k + 1 + (w.us.length - k) → RowG bcl 1 xs o c (insU w.us (foldB s.user) k) →
          VRet 8 (.tup [bv true, iv 0]) (hoRY (0 + w.R.length + 1) n w.sp.length w.su.length w.cl.length w { q with r := ⟨zs2, o2, c2⟩, u := ⟨xs, o, c⟩ } q 9 14 4 5 6 ++ [.heap h, Z, .arr zs2 T_rostrumref24_Step, A, B, C, D, .arr xs T_string] ++ l) (RDid h w q s) := by
        intro k n xs o c Z A B C D l hI hn hr
        rw [← insU_len (f := foldB s.user) hI.le] at hn
        rw [← hlR]
        subst hn
        exact VRet.mk [0, 1, 2, 3, 4, 5, 6, 7, 9, 14] (.tup [bv true, iv 0]) (hoRX (w.reg s k) { q with r := ⟨zs2, o2, c2⟩, u := ⟨xs, o, c⟩ } q 8 9 4 5 6 ++ [.heap h, .arr zs2 T_rostrumref24_Step, .arr xs T_string]) ⟨rfl, rfl, rfl⟩
          (.reg ⟨zs2, o2, c2⟩ ⟨xs, o, c⟩ k he h5 k8 hI (hkU zs2 o2 c2 hr3 k xs o c hI hr))
      refine VLoop.mk Nat (fun i => [(0, .ptr 0 0), (3, .ptr 8 0), (6, .raw (.string (foldB s.user))), (7, iv i)]) (fun _ => hoRY (0 + w.R.length + 1) w.us.length w.sp.length w.su.length w.cl.length w { q with r := ⟨zs2, o2, c2⟩ } q 9 3 4 5 6 ++ [.heap h, .cells (stcells s) T_rostrumref24_Step, .arr zs2 T_rostrumref24_Step])
        (fun i => i ≤ w.us.length ∧ ∀ j (hj : j < w.us.length), j < i → bless w.us[j] (foldB s.user) = true) (fun i => w.us.length - i) 0 [0, 1, 2, 3, 4, 5, 6, 7, 8, 12] ⟨⟨Nat.zero_le _, fun j _ hj => absurd hj (Nat.not_lt_zero j)⟩, rfl, rfl, rfl⟩ ?_
      rintro i ⟨hi, hlo⟩ g
      have last : (∀ (hk : i < w.us.length), bless w.us[i] (foldB s.user) = false) → InsU w.us (foldB s.user) i := fun h => ⟨hi, hlo, h⟩
      refine And.intro (fun t1 => ?_) (fun t1 => ?_)
      · have t1 : (i : Int) < (w.us.length : Nat) := of_decide_eq_true t1
        have hil : i < w.us.length := by omega
        have hwi : IntKind.i64.wrap ((i : Int) + 1) = ((i + 1 : Nat) : Int) := wrap64 (by omega)
        have hx := RowG.one hk.u (fun _ => rfl) hil
        refine And.intro ⟨Int.natCast_nonneg i, t1, (RowG.room hk.u)⟩ (Exists.intro _ (And.intro (by rw [Int.toNat_natCast]; exact hx) ?_))
        refine And.intro (fun t2 => ?_) (fun t2 => ?_)
        · refine Exists.intro _ (And.intro hwi ?_)
          refine Exists.intro (i + 1) (Exists.intro [0, 1, 2, 3, 4, 5, 6, 7, 8, 9] (And.intro ⟨⟨hil, fun j hj hji => ?_⟩, by omega⟩ ⟨rfl, rfl, rfl⟩))
          by_cases e : j = i
          · subst e; exact t2
          · exact hlo j hj (by omega)
        · have hI := last (fun _ => t2)
          have hU := RowG.pre bcl_len hk.u hi
          have uP := rowHead bcl_len bcl_ok hk.u hi
          refine And.intro ⟨Int.natCast_nonneg i, rowLeC hk.u hi⟩ (And.intro ⟨Int.natCast_nonneg i, Int.ofNat_le.2 hi⟩ ?_)
          refine Exists.elim (⟨_, rfl⟩ : ∃ o', o' = if q.u.c = (i : Int).toNat then q.u.o else q.u.o + (i : Int).toNat * 1) fun u2 hu2 => ?_
          refine Exists.intro u2 (And.intro hu2 ?_)
          have hQ := RowG.post bcl_len hk.u hi hu2
          have uQ := rowTail bcl_len bcl_ok hk.u hi hu2
          have hlT : (w.us.take i).length = i := takeLen hi
          have hlD : (w.us.drop i).length = w.us.length - i := List.length_drop
          have ub1 := small16 (n := 0 + i) (smallA hi hul)
          have ub2 := small16 (n := 0 + i + 1) (smallB hi hul)
          have ub3 := small16 (n := 0 + i + 1 + (w.us.length - i)) (smallC hi hul)
          have unil : RowG bcl 1 [] 0 0 [] := RowG.nilS
          refine And.intro ?e ?f
          case e =>
            refine And.intro rfl (And.intro rfl (And.intro rfl (And.intro rfl ?_)))
            refine And.intro ?e1 ?e2
            case e1 =>
              refine And.intro ⟨⟨Nat.zero_le _, by simp, rfl⟩, uP, ub1⟩ ?_
              intro zs3 o3 c3 hz3
              have hs1 := RowG.app unil rfl hlT.symm hU hz3.1 hz3.2.1 hz3.2.2
              refine And.intro rfl (And.intro rfl ?_)
              refine And.intro rfl (And.intro rfl ?_)
              refine And.intro ⟨⟨hz3.1, hz3.2.1, rfl⟩, ⟨rfl, rfl⟩, ub2⟩ ?_
              intro zs4 o4 c4 hz4
              have hs2 := RowG.snoc (x := foldB s.user) hs1 (by simp [hlT]) hz4.1 hz4.2.1 hz4.2.2
              refine And.intro rfl (And.intro rfl ?_)
              refine And.intro ⟨⟨hz4.1, hz4.2.1, rfl⟩, uQ, ub3⟩ ?_
              intro zs5 o5 c5 hz5
              have hs3 := RowG.app hs2 (by simp [hlT]) hlD.symm hQ hz5.1 hz5.2.1 hz5.2.2
              exact finReg i _ zs5 o5 c5 _ _ _ _ _ _ hI rfl hs3
            case e2 =>
              refine And.intro rfl (And.intro rfl (And.intro rfl (And.intro rfl ?_)))
              refine And.intro ⟨⟨Nat.zero_le _, by simp, rfl⟩, uP, ub1⟩ ?_
              intro zs3 o3 c3 hz3
              have hs1 := RowG.app unil rfl hlT.symm hU hz3.1 hz3.2.1 hz3.2.2
              refine And.intro rfl (And.intro rfl ?_)
              refine And.intro ⟨⟨hz3.1, hz3.2.1, rfl⟩, ⟨rfl, rfl⟩, ub2⟩ ?_
              intro zs4 o4 c4 hz4
              have hs2 := RowG.snoc (x := foldB s.user) hs1 (by simp [hlT]) hz4.1 hz4.2.1 hz4.2.2
              refine And.intro rfl (And.intro rfl ?_)
              refine And.intro ⟨⟨hz4.1, hz4.2.1, rfl⟩, uQ, ub3⟩ ?_
              intro zs5 o5 c5 hz5
              have hs3 := RowG.app hs2 (by simp [hlT]) hlD.symm hQ hz5.1 hz5.2.1 hz5.2.2
              exact finReg i _ zs5 o5 c5 _ _ _ _ _ _ hI rfl hs3
          case f =>
            refine And.intro rfl (And.intro rfl (And.intro rfl (And.intro rfl ?_)))
            refine And.intro rfl (And.intro rfl (And.intro rfl (And.intro rfl ?_)))
            refine And.intro ⟨⟨Nat.zero_le _, by simp, rfl⟩, uP, ub1⟩ ?_
            intro zs3 o3 c3 hz3
            have hs1 := RowG.app unil rfl hlT.symm hU hz3.1 hz3.2.1 hz3.2.2
            refine And.intro rfl (And.intro rfl ?_)
            refine And.intro ⟨⟨hz3.1, hz3.2.1, rfl⟩, ⟨rfl, rfl⟩, ub2⟩ ?_
            intro zs4 o4 c4 hz4
            have hs2 := RowG.snoc (x := foldB s.user) hs1 (by simp [hlT]) hz4.1 hz4.2.1 hz4.2.2
            refine And.intro rfl (And.intro rfl ?_)
            refine And.intro ⟨⟨hz4.1, hz4.2.1, rfl⟩, uQ, ub3⟩ ?_
            intro zs5 o5 c5 hz5
            have hs3 := RowG.app hs2 (by simp [hlT]) hlD.symm hQ hz5.1 hz5.2.1 hz5.2.2
            exact finReg i _ zs5 o5 c5 _ _ _ _ _ _ hI rfl hs3
      · have hil : i = w.us.length := by have t1 := of_decide_eq_false t1; omega
        have hI := last (fun h => absurd h (by omega))
        have hU := RowG.pre bcl_len hk.u hi
        have uP := rowHead bcl_len bcl_ok hk.u hi
        refine And.intro ⟨Int.natCast_nonneg i, rowLeC hk.u hi⟩ (And.intro ⟨Int.natCast_nonneg i, Int.ofNat_le.2 hi⟩ ?_)
        refine Exists.elim (⟨_, rfl⟩ : ∃ o', o' = if q.u.c = (i : Int).toNat then q.u.o else q.u.o + (i : Int).toNat * 1) fun u2 hu2 => ?_
        refine Exists.intro u2 (And.intro hu2 ?_)
        have hQ := RowG.post bcl_len hk.u hi hu2
        have uQ := rowTail bcl_len bcl_ok hk.u hi hu2
        have hlT : (w.us.take i).length = i := takeLen hi
        have hlD : (w.us.drop i).length = w.us.length - i := List.length_drop
        have ub1 := small16 (n := 0 + i) (smallA hi hul)
        have ub2 := small16 (n := 0 + i + 1) (smallB hi hul)
        have ub3 := small16 (n := 0 + i + 1 + (w.us.length - i)) (smallC hi hul)
        have unil : RowG bcl 1 [] 0 0 [] := RowG.nilS
        refine And.intro ?e ?f
        case e =>
          refine And.intro rfl (And.intro rfl (And.intro rfl (And.intro rfl ?_)))
          refine And.intro ?e1 ?e2
          case e1 =>
            refine And.intro ⟨⟨Nat.zero_le _, by simp, rfl⟩, uP, ub1⟩ ?_
            intro zs3 o3 c3 hz3
            have hs1 := RowG.app unil rfl hlT.symm hU hz3.1 hz3.2.1 hz3.2.2
            refine And.intro rfl (And.intro rfl ?_)
            refine And.intro rfl (And.intro rfl ?_)
            refine And.intro ⟨⟨hz3.1, hz3.2.1, rfl⟩, ⟨rfl, rfl⟩, ub2⟩ ?_
            intro zs4 o4 c4 hz4
            have hs2 := RowG.snoc (x := foldB s.user) hs1 (by simp [hlT]) hz4.1 hz4.2.1 hz4.2.2
            refine And.intro rfl (And.intro rfl ?_)
            refine And.intro ⟨⟨hz4.1, hz4.2.1, rfl⟩, uQ, ub3⟩ ?_
            intro zs5 o5 c5 hz5
            have hs3 := RowG.app hs2 (by simp [hlT]) hlD.symm hQ hz5.1 hz5.2.1 hz5.2.2
            exact finReg i _ zs5 o5 c5 _ _ _ _ _ _ hI rfl hs3
          case e2 =>
            refine And.intro rfl (And.intro rfl (And.intro rfl (And.intro rfl ?_)))
            refine And.intro ⟨⟨Nat.zero_le _, by simp, rfl⟩, uP, ub1⟩ ?_
            intro zs3 o3 c3 hz3
            have hs1 := RowG.app unil rfl hlT.symm hU hz3.1 hz3.2.1 hz3.2.2
            refine And.intro rfl (And.intro rfl ?_)
            refine And.intro ⟨⟨hz3.1, hz3.2.1, rfl⟩, ⟨rfl, rfl⟩, ub2⟩ ?_
            intro zs4 o4 c4 hz4
            have hs2 := RowG.snoc (x := foldB s.user) hs1 (by simp [hlT]) hz4.1 hz4.2.1 hz4.2.2
            refine And.intro rfl (And.intro rfl ?_)
            refine And.intro ⟨⟨hz4.1, hz4.2.1, rfl⟩, uQ, ub3⟩ ?_
            intro zs5 o5 c5 hz5
            have hs3 := RowG.app hs2 (by simp [hlT]) hlD.symm hQ hz5.1 hz5.2.1 hz5.2.2
            exact finReg i _ zs5 o5 c5 _ _ _ _ _ _ hI rfl hs3
        case f =>
          refine And.intro rfl (And.intro rfl (And.intro rfl (And.intro rfl ?_)))
          refine And.intro rfl (And.intro rfl (And.intro rfl (And.intro rfl ?_)))
          refine And.intro ⟨⟨Nat.zero_le _, by simp, rfl⟩, uP, ub1⟩ ?_
          intro zs3 o3 c3 hz3
          have hs1 := RowG.app unil rfl hlT.symm hU hz3.1 hz3.2.1 hz3.2.2
          refine And.intro rfl (And.intro rfl ?_)
          refine And.intro ⟨⟨hz3.1, hz3.2.1, rfl⟩, ⟨rfl, rfl⟩, ub2⟩ ?_
          intro zs4 o4 c4 hz4
          have hs2 := RowG.snoc (x := foldB s.user) hs1 (by simp [hlT]) hz4.1 hz4.2.1 hz4.2.2
          refine And.intro rfl (And.intro rfl ?_)
          refine And.intro ⟨⟨hz4.1, hz4.2.1, rfl⟩, uQ, ub3⟩ ?_
          intro zs5 o5 c5 hz5
          have hs3 := RowG.app hs2 (by simp [hlT]) hlD.symm hQ hz5.1 hz5.2.1 hz5.2.2
          exact finReg i _ zs5 o5 c5 _ _ _ _ _ _ hI rfl hs3
    case d =>
      refine And.intro rfl (And.intro rfl ?_)
      refine And.intro ⟨⟨Nat.zero_le _, by simp, rfl⟩, dP, hb1⟩ ?_
      intro zs1 o1 c1 hz1
      have hr1 := RowG.app nil0 rfl rfl hP hz1.1 hz1.2.1 hz1.2.2
      refine And.intro ⟨⟨hz1.1, hz1.2.1, rfl⟩, ⟨rfl, rfl⟩, hb2⟩ ?_
      intro zs2 o2 c2 hz2
      have hr2 := RowG.snoc (x := s) hr1 (by simp) hz2.1 hz2.2.1 hz2.2.2
      refine And.intro (fun k7 => ?_) (fun k7 => absurd (of_decide_eq_false k7) (fun k => k h5))
      have hr3 : RowG stcl 19 zs2 o2 c2 (w.R ++ [s]) := hr2
      have hE := s_Registered h hc (w.did s) { q with r := ⟨zs2, o2, c2⟩ } (hkD zs2 o2 c2 hr3) s.user (Nat.le_trans h2 (by decide))
      simp only [hoR, RH.did, hlR] at hE
      refine VCall.mk [0, 1, 12, 3, 4, 5, 6, 7] hE ⟨rfl, rfl, rfl⟩ ?_
      rintro _ _ ⟨rfl, rfl⟩
      refine And.intro (fun k8 => ?_) (fun k8 => ?_)
      · exact finNo _ zs2 o2 c2 _ _ _ _ _ he (.inl ⟨h5, k8⟩) hlR.symm hr3
      refine VCall.mk [7] (s_ref_Fold h hc s.user (Nat.le_trans h2 (by decide))) ⟨rfl, rfl, rfl⟩ ?_
      rintro _ _ ⟨rfl, rfl⟩
      have hul := hk.ul
      have finReg : ∀ (k n : Nat) (xs : List Value) (o c : Nat) (Z A B C D : SO) (l : List SO), InsU w.us (foldB s.user) k → n = 0 + k + 1 + (w.us.length - k) → RowG bcl 1 xs o c (insU w.us (foldB s.user) k) →
          VRet 8 (.tup [bv true, iv 0]) (hoRY (0 + w.R.length + 1) n w.sp.length w.su.length w.cl.length w { q with r := ⟨zs2, o2, c2⟩, u := ⟨xs, o, c⟩ } q 9 14 4 5 6 ++ [.heap h, Z, .arr zs2 T_rostrumref24_Step, A, B, C, D, .arr xs T_string] ++ l) (RDid h w q s) := by
        intro k n xs o c Z A B C D l hI hn hr
        rw [← insU_len (f := foldB s.user) hI.le] at hn
        rw [← hlR]
        subst hn
        exact VRet.mk [0, 1, 2, 3, 4, 5, 6, 7, 9, 14] (.tup [bv true, iv 0]) (hoRX (w.reg s k) { q with r := ⟨zs2, o2, c2⟩, u := ⟨xs, o, c⟩ } q 8 9 4 5 6 ++ [.heap h, .arr zs2 T_rostrumref24_Step, .arr xs T_string]) ⟨rfl, rfl, rfl⟩
          (.reg ⟨zs2, o2, c2⟩ ⟨xs, o, c⟩ k he h5 k8 hI (hkU zs2 o2 c2 hr3 k xs o c hI hr))
      refine VLoop.mk Nat (fun i => [(0, .ptr 0 0), (3, .ptr 8 0), (6, .raw (.string (foldB s.user))), (7, iv i)]) (fun _ => hoRY (0 + w.R.length + 1) w.us.length w.sp.length w.su.length w.cl.length w { q with r := ⟨zs2, o2, c2⟩ } q 9 3 4 5 6 ++ [.heap h, .cells (stcells s) T_rostrumref24_Step, .arr zs2 T_rostrumref24_Step])
        (fun i => i ≤ w.us.length ∧ ∀ j (hj : j < w.us.length), j < i → bless w.us[j] (foldB s.user) = true) (fun i => w.us.length - i) 0 [0, 1, 2, 3, 4, 5, 6, 7, 8, 12] ⟨⟨Nat.zero_le _, fun j _ hj => absurd hj (Nat.not_lt_zero j)⟩, rfl, rfl, rfl⟩ ?_
      rintro i ⟨hi, hlo⟩ g
      have last : (∀ (hk : i < w.us.length), bless w.us[i] (foldB s.user) = false) → InsU w.us (foldB s.user) i := fun h => ⟨hi, hlo, h⟩
      refine And.intro (fun t1 => ?_) (fun t1 => ?_)
      · have t1 : (i : Int) < (w.us.length : Nat) := of_decide_eq_true t1
        have hil : i < w.us.length := by omega
        have hwi : IntKind.i64.wrap ((i : Int) + 1) = ((i + 1 : Nat) : Int) := wrap64 (by omega)
        have hx := RowG.one hk.u (fun _ => rfl) hil
        refine And.intro ⟨Int.natCast_nonneg i, t1, (RowG.room hk.u)⟩ (Exists.intro _ (And.intro (by rw [Int.toNat_natCast]; exact hx) ?_))
        refine And.intro (fun t2 => ?_) (fun t2 => ?_)
        · refine Exists.intro _ (And.intro hwi ?_)
          refine Exists.intro (i + 1) (Exists.intro [0, 1, 2, 3, 4, 5, 6, 7, 8, 9] (And.intro ⟨⟨hil, fun j hj hji => ?_⟩, by omega⟩ ⟨rfl, rfl, rfl⟩))
          by_cases e : j = i
          · subst e; exact t2
          · exact hlo j hj (by omega)
        · have hI := last (fun _ => t2)
          have hU := RowG.pre bcl_len hk.u hi
          have uP := rowHead bcl_len bcl_ok hk.u hi
          refine And.intro ⟨Int.natCast_nonneg i, rowLeC hk.u hi⟩ (And.intro ⟨Int.natCast_nonneg i, Int.ofNat_le.2 hi⟩ ?_)
          refine Exists.elim (⟨_, rfl⟩ : ∃ o', o' = if q.u.c = (i : Int).toNat then q.u.o else q.u.o + (i : Int).toNat * 1) fun u2 hu2 => ?_
          refine Exists.intro u2 (And.intro hu2 ?_)
          have hQ := RowG.post bcl_len hk.u hi hu2
          have uQ := rowTail bcl_len bcl_ok hk.u hi hu2
          have hlT : (w.us.take i).length = i := takeLen hi
          have hlD : (w.us.drop i).length = w.us.length - i := List.length_drop
          have ub1 := small16 (n := 0 + i) (smallA hi hul)
          have ub2 := small16 (n := 0 + i + 1) (smallB hi hul)
          have ub3 := small16 (n := 0 + i + 1 + (w.us.length - i)) (smallC hi hul)
          have unil : RowG bcl 1 [] 0 0 [] := RowG.nilS
          refine And.intro ?e ?f
          case e =>
            refine And.intro rfl (And.intro rfl (And.intro rfl (And.intro rfl ?_)))
            refine And.intro ?e1 ?e2
            case e1 =>
              refine And.intro ⟨⟨Nat.zero_le _, by simp, rfl⟩, uP, ub1⟩ ?_
              intro zs3 o3 c3 hz3
              have hs1 := RowG.app unil rfl hlT.symm hU hz3.1 hz3.2.1 hz3.2.2
              refine And.intro rfl (And.intro rfl ?_)
              refine And.intro rfl (And.intro rfl ?_)
              refine And.intro ⟨⟨hz3.1, hz3.2.1, rfl⟩, ⟨rfl, rfl⟩, ub2⟩ ?_
              intro zs4 o4 c4 hz4
              have hs2 := RowG.snoc (x := foldB s.user) hs1 (by simp [hlT]) hz4.1 hz4.2.1 hz4.2.2
              refine And.intro rfl (And.intro rfl ?_)
              refine And.intro ⟨⟨hz4.1, hz4.2.1, rfl⟩, uQ, ub3⟩ ?_
              intro zs5 o5 c5 hz5
              have hs3 := RowG.app hs2 (by simp [hlT]) hlD.symm hQ hz5.1 hz5.2.1 hz5.2.2
              exact finReg i _ zs5 o5 c5 _ _ _ _ _ _ hI rfl hs3
            case e2 =>
              refine And.intro rfl (And.intro rfl (And.intro rfl (And.intro rfl ?_)))
              refine And.intro ⟨⟨Nat.zero_le _, by simp, rfl⟩, uP, ub1⟩ ?_
              intro zs3 o3 c3 hz3
              have hs1 := RowG.app unil rfl hlT.symm hU hz3.1 hz3.2.1 hz3.2.2
              refine And.intro rfl (And.intro rfl ?_)
              refine And.intro ⟨⟨hz3.1, hz3.2.1, rfl⟩, ⟨rfl, rfl⟩, ub2⟩ ?_
              intro zs4 o4 c4 hz4
              have hs2 := RowG.snoc (x := foldB s.user) hs1 (by simp [hlT]) hz4.1 hz4.2.1 hz4.2.2
              refine And.intro rfl (And.intro rfl ?_)
              refine And.intro ⟨⟨hz4.1, hz4.2.1, rfl⟩, uQ, ub3⟩ ?_
              intro zs5 o5 c5 hz5
              have hs3 := RowG.app hs2 (by simp [hlT]) hlD.symm hQ hz5.1 hz5.2.1 hz5.2.2
              exact finReg i _ zs5 o5 c5 _ _ _ _ _ _ hI rfl hs3
          case f =>
            refine And.intro rfl (And.intro rfl (And.intro rfl (And.intro rfl ?_)))
            refine And.intro rfl (And.intro rfl (And.intro rfl (And.intro rfl ?_)))
            refine And.intro ⟨⟨Nat.zero_le _, by simp, rfl⟩, uP, ub1⟩ ?_
            intro zs3 o3 c3 hz3
            have hs1 := RowG.app unil rfl hlT.symm hU hz3.1 hz3.2.1 hz3.2.2
            refine And.intro rfl (And.intro rfl ?_)
            refine And.intro ⟨⟨hz3.1, hz3.2.1, rfl⟩, ⟨rfl, rfl⟩, ub2⟩ ?_
            intro zs4 o4 c4 hz4
            have hs2 := RowG.snoc (x := foldB s.user) hs1 (by simp [hlT]) hz4.1 hz4.2.1 hz4.2.2
            refine And.intro rfl (And.intro rfl ?_)
            refine And.intro ⟨⟨hz4.1, hz4.2.1, rfl⟩, uQ, ub3⟩ ?_
            intro zs5 o5 c5 hz5
            have hs3 := RowG.app hs2 (by simp [hlT]) hlD.symm hQ hz5.1 hz5.2.1 hz5.2.2
            exact finReg i _ zs5 o5 c5 _ _ _ _ _ _ hI rfl hs3
      · have hil : i = w.us.length := by have t1 := of_decide_eq_false t1; omega
        have hI := last (fun h => absurd h (by omega))
        have hU := RowG.pre bcl_len hk.u hi
        have uP := rowHead bcl_len bcl_ok hk.u hi
        refine And.intro ⟨Int.natCast_nonneg i, rowLeC hk.u hi⟩ (And.intro ⟨Int.natCast_nonneg i, Int.ofNat_le.2 hi⟩ ?_)
        refine Exists.elim (⟨_, rfl⟩ : ∃ o', o' = if q.u.c = (i : Int).toNat then q.u.o else q.u.o + (i : Int).toNat * 1) fun u2 hu2 => ?_
        refine Exists.intro u2 (And.intro hu2 ?_)
        have hQ := RowG.post bcl_len hk.u hi hu2
        have uQ := rowTail bcl_len bcl_ok hk.u hi hu2
        have hlT : (w.us.take i).length = i := takeLen hi
        have hlD : (w.us.drop i).length = w.us.length - i := List.length_drop
        have ub1 := small16 (n := 0 + i) (smallA hi hul)
        have ub2 := small16 (n := 0 + i + 1) (smallB hi hul)
        have ub3 := small16 (n := 0 + i + 1 + (w.us.length - i)) (smallC hi hul)
        have unil : RowG bcl 1 [] 0 0 [] := RowG.nilS
        refine And.intro ?e ?f
        case e =>
          refine And.intro rfl (And.intro rfl (And.intro rfl (And.intro rfl ?_)))
          refine And.intro ?e1 ?e2
          case e1 =>
            refine And.intro ⟨⟨Nat.zero_le _, by simp, rfl⟩, uP, ub1⟩ ?_
            intro zs3 o3 c3 hz3
            have hs1 := RowG.app unil rfl hlT.symm hU hz3.1 hz3.2.1 hz3.2.2
            refine And.intro rfl (And.intro rfl ?_)
            refine And.intro rfl (And.intro rfl ?_)
            refine And.intro ⟨⟨hz3.1, hz3.2.1, rfl⟩, ⟨rfl, rfl⟩, ub2⟩ ?_
            intro zs4 o4 c4 hz4
            have hs2 := RowG.snoc (x := foldB s.user) hs1 (by simp [hlT]) hz4.1 hz4.2.1 hz4.2.2
            refine And.intro rfl (And.intro rfl ?_)
            refine And.intro ⟨⟨hz4.1, hz4.2.1, rfl⟩, uQ, ub3⟩ ?_
            intro zs5 o5 c5 hz5
            have hs3 := RowG.app hs2 (by simp [hlT]) hlD.symm hQ hz5.1 hz5.2.1 hz5.2.2
            exact finReg i _ zs5 o5 c5 _ _ _ _ _ _ hI rfl hs3
          case e2 =>
            refine And.intro rfl (And.intro rfl (And.intro rfl (And.intro rfl ?_)))
            refine And.intro ⟨⟨Nat.zero_le _, by simp, rfl⟩, uP, ub1⟩ ?_
            intro zs3 o3 c3 hz3
            have hs1 := RowG.app unil rfl hlT.symm hU hz3.1 hz3.2.1 hz3.2.2
            refine And.intro rfl (And.intro rfl ?_)
            refine And.intro ⟨⟨hz3.1, hz3.2.1, rfl⟩, ⟨rfl, rfl⟩, ub2⟩ ?_
            intro zs4 o4 c4 hz4
            have hs2 := RowG.snoc (x := foldB s.user) hs1 (by simp [hlT]) hz4.1 hz4.2.1 hz4.2.2
            refine And.intro rfl (And.intro rfl ?_)
            refine And.intro ⟨⟨hz4.1, hz4.2.1, rfl⟩, uQ, ub3⟩ ?_
            intro zs5 o5 c5 hz5
            have hs3 := RowG.app hs2 (by simp [hlT]) hlD.symm hQ hz5.1 hz5.2.1 hz5.2.2
            exact finReg i _ zs5 o5 c5 _ _ _ _ _ _ hI rfl hs3
        case f =>
          refine And.intro rfl (And.intro rfl (And.intro rfl (And.intro rfl ?_)))
          refine And.intro rfl (And.intro rfl (And.intro rfl (And.intro rfl ?_)))
          refine And.intro ⟨⟨Nat.zero_le _, by simp, rfl⟩, uP, ub1⟩ ?_
          intro zs3 o3 c3 hz3
          have hs1 := RowG.app unil rfl hlT.symm hU hz3.1 hz3.2.1 hz3.2.2
          refine And.intro rfl (And.intro rfl ?_)
          refine And.intro ⟨⟨hz3.1, hz3.2.1, rfl⟩, ⟨rfl, rfl⟩, ub2⟩ ?_
          intro zs4 o4 c4 hz4
          have hs2 := RowG.snoc (x := foldB s.user) hs1 (by simp [hlT]) hz4.1 hz4.2.1 hz4.2.2
          refine And.intro rfl (And.intro rfl ?_)
          refine And.intro ⟨⟨hz4.1, hz4.2.1, rfl⟩, uQ, ub3⟩ ?_
          intro zs5 o5 c5 hz5
          have hs3 := RowG.app hs2 (by simp [hlT]) hlD.symm hQ hz5.1 hz5.2.1 hz5.2.2
          exact finReg i _ zs5 o5 c5 _ _ _ _ _ _ hI rfl hs3
  case b =>
    refine And.intro rfl (And.intro rfl ?_)
    refine And.intro rfl (And.intro rfl ?_)
    refine And.intro ⟨⟨Nat.zero_le _, by simp, rfl⟩, dP, hb1⟩ ?_
    intro zs1 o1 c1 hz1
    have hr1 := RowG.app nil0 rfl rfl hP hz1.1 hz1.2.1 hz1.2.2
    refine And.intro ⟨⟨hz1.1, hz1.2.1, rfl⟩, ⟨rfl, rfl⟩, hb2⟩ ?_
    intro zs2 o2 c2 hz2
    have hr2 := RowG.snoc (x := s) hr1 (by simp) hz2.1 hz2.2.1 hz2.2.2
    refine And.intro (fun k7 => ?_) (fun k7 => absurd (of_decide_eq_false k7) (fun k => k h5))
    have hr3 : RowG stcl 19 zs2 o2 c2 (w.R ++ [s]) := hr2
    have hE := s_Registered h hc (w.did s) { q with r := ⟨zs2, o2, c2⟩ } (hkD zs2 o2 c2 hr3) s.user (Nat.le_trans h2 (by decide))
    simp only [hoR, RH.did, hlR] at hE
    refine VCall.mk [0, 1, 12, 3, 4, 5, 6, 7] hE ⟨rfl, rfl, rfl⟩ ?_
    rintro _ _ ⟨rfl, rfl⟩
    refine And.intro (fun k8 => ?_) (fun k8 => ?_)
    · exact finNo _ zs2 o2 c2 _ _ _ _ _ he (.inl ⟨h5, k8⟩) hlR.symm hr3
    refine VCall.mk [7] (s_ref_Fold h hc s.user (Nat.le_trans h2 (by decide))) ⟨rfl, rfl, rfl⟩ ?_
    rintro _ _ ⟨rfl, rfl⟩
    have hul := hk.ul
    have finReg : ∀ (k n : Nat) (xs : List Value) (o c : Nat) (Z A B C D : SO) (l : List SO), InsU w.us (foldB s.user) k → n = 0 + k + 1 + (w.us.length - k) → RowG bcl 1 xs o c (insU w.us (foldB s.user) k) →
        VRet 8 (.tup [bv true, iv 0]) (hoRY (0 + w.R.length + 1) n w.sp.length w.su.length w.cl.length w { q with r := ⟨zs2, o2, c2⟩, u := ⟨xs, o, c⟩ } q 9 14 4 5 6 ++ [.heap h, Z, .arr zs2 T_rostrumref24_Step, A, B, C, D, .arr xs T_string] ++ l) (RDid h w q s) := by
      intro k n xs o c Z A B C D l hI hn hr
      rw [← insU_len (f := foldB s.user) hI.le] at hn
      rw [← hlR]
      subst hn
      exact VRet.mk [0, 1, 2, 3, 4, 5, 6, 7, 9, 14] (.tup [bv true, iv 0]) (hoRX (w.reg s k) { q with r := ⟨zs2, o2, c2⟩, u := ⟨xs, o, c⟩ } q 8 9 4 5 6 ++ [.heap h, .arr zs2 T_rostrumref24_Step, .arr xs T_string]) ⟨rfl, rfl, rfl⟩
        (.reg ⟨zs2, o2, c2⟩ ⟨xs, o, c⟩ k he h5 k8 hI (hkU zs2 o2 c2 hr3 k xs o c hI hr))
    refine VLoop.mk Nat (fun i => [(0, .ptr 0 0), (3, .ptr 8 0), (6, .raw (.string (foldB s.user))), (7, iv i)]) (fun _ => hoRY (0 + w.R.length + 1) w.us.length w.sp.length w.su.length w.cl.length w { q with r := ⟨zs2, o2, c2⟩ } q 9 3 4 5 6 ++ [.heap h, .cells (stcells s) T_rostrumref24_Step, .arr zs2 T_rostrumref24_Step])
      (fun i => i ≤ w.us.length ∧ ∀ j (hj : j < w.us.length), j < i → bless w.us[j] (foldB s.user) = true) (fun i => w.us.length - i) 0 [0, 1, 2, 3, 4, 5, 6, 7, 8, 12] ⟨⟨Nat.zero_le _, fun j _ hj => absurd hj (Nat.not_lt_zero j)⟩, rfl, rfl, rfl⟩ ?_
    rintro i ⟨hi, hlo⟩ g
    have last : (∀ (hk : i < w.us.length), bless w.us[i] (foldB s.user) = false) → InsU w.us (foldB s.user) i := fun h => ⟨hi, hlo, h⟩
    refine And.intro (fun t1 => ?_) (fun t1 => ?_)
    · have t1 : (i : Int) < (w.us.length : Nat) := of_decide_eq_true t1
      have hil : i < w.us.length := by omega
      have hwi : IntKind.i64.wrap ((i : Int) + 1) = ((i + 1 : Nat) : Int) := wrap64 (by omega)
      have hx := RowG.one hk.u (fun _ => rfl) hil
      refine And.intro ⟨Int.natCast_nonneg i, t1, (RowG.room hk.u)⟩ (Exists.intro _ (And.intro (by rw [Int.toNat_natCast]; exact hx) ?_))
      refine And.intro (fun t2 => ?_) (fun t2 => ?_)
      · refine Exists.intro _ (And.intro hwi ?_)
        refine Exists.intro (i + 1) (Exists.intro [0, 1, 2, 3, 4, 5, 6, 7, 8, 9] (And.intro ⟨⟨hil, fun j hj hji => ?_⟩, by omega⟩ ⟨rfl, rfl, rfl⟩))
        by_cases e : j = i
        · subst e; exact t2
        · exact hlo j hj (by omega)
      · have hI := last (fun _ => t2)
        have hU := RowG.pre bcl_len hk.u hi
        have uP := rowHead bcl_len bcl_ok hk.u hi
        refine And.intro ⟨Int.natCast_nonneg i, rowLeC hk.u hi⟩ (And.intro ⟨Int.natCast_nonneg i, Int.ofNat_le.2 hi⟩ ?_)
        refine Exists.elim (⟨_, rfl⟩ : ∃ o', o' = if q.u.c = (i : Int).toNat then q.u.o else q.u.o + (i : Int).toNat * 1) fun u2 hu2 => ?_
        refine Exists.intro u2 (And.intro hu2 ?_)
        have hQ := RowG.post bcl_len hk.u hi hu2
        have uQ := rowTail bcl_len bcl_ok hk.u hi hu2
        have hlT : (w.us.take i).length = i := takeLen hi
        have hlD : (w.us.drop i).length = w.us.length - i := List.length_drop
        have ub1 := small16 (n := 0 + i) (smallA hi hul)
        have ub2 := small16 (n := 0 + i + 1) (smallB hi hul)
        have ub3 := small16 (n := 0 + i + 1 + (w.us.length - i)) (smallC hi hul)
        have unil : RowG bcl 1 [] 0 0 [] := RowG.nilS
        refine And.intro ?e ?f
        case e =>
          refine And.intro rfl (And.intro rfl (And.intro rfl (And.intro rfl ?_)))
          refine And.intro ?e1 ?e2
          case e1 =>
            refine And.intro ⟨⟨Nat.zero_le _, by simp, rfl⟩, uP, ub1⟩ ?_
            intro zs3 o3 c3 hz3
            have hs1 := RowG.app unil rfl hlT.symm hU hz3.1 hz3.2.1 hz3.2.2
            refine And.intro rfl (And.intro rfl ?_)
            refine And.intro rfl (And.intro rfl ?_)
            refine And.intro ⟨⟨hz3.1, hz3.2.1, rfl⟩, ⟨rfl, rfl⟩, ub2⟩ ?_
            intro zs4 o4 c4 hz4
            have hs2 := RowG.snoc (x := foldB s.user) hs1 (by simp [hlT]) hz4.1 hz4.2.1 hz4.2.2
            refine And.intro rfl (And.intro rfl ?_)
            refine And.intro ⟨⟨hz4.1, hz4.2.1, rfl⟩, uQ, ub3⟩ ?_
            intro zs5 o5 c5 hz5
            have hs3 := RowG.app hs2 (by simp [hlT]) hlD.symm hQ hz5.1 hz5.2.1 hz5.2.2
            exact finReg i _ zs5 o5 c5 _ _ _ _ _ _ hI rfl hs3
          case e2 =>
            refine And.intro rfl (And.intro rfl (And.intro rfl (And.intro rfl ?_)))
            refine And.intro ⟨⟨Nat.zero_le _, by simp, rfl⟩, uP, ub1⟩ ?_
            intro zs3 o3 c3 hz3
            have hs1 := RowG.app unil rfl hlT.symm hU hz3.1 hz3.2.1 hz3.2.2
            refine And.intro rfl (And.intro rfl ?_)
            refine And.intro ⟨⟨hz3.1, hz3.2.1, rfl⟩, ⟨rfl, rfl⟩, ub2⟩ ?_
            intro zs4 o4 c4 hz4
            have hs2 := RowG.snoc (x := foldB s.user) hs1 (by simp [hlT]) hz4.1 hz4.2.1 hz4.2.2
            refine And.intro rfl (And.intro rfl ?_)
            refine And.intro ⟨⟨hz4.1, hz4.2.1, rfl⟩, uQ, ub3⟩ ?_
            intro zs5 o5 c5 hz5
            have hs3 := RowG.app hs2 (by simp [hlT]) hlD.symm hQ hz5.1 hz5.2.1 hz5.2.2
            exact finReg i _ zs5 o5 c5 _ _ _ _ _ _ hI rfl hs3
        case f =>
          refine And.intro rfl (And.intro rfl (And.intro rfl (And.intro rfl ?_)))
          refine And.intro rfl (And.intro rfl (And.intro rfl (And.intro rfl ?_)))
          refine And.intro ⟨⟨Nat.zero_le _, by simp, rfl⟩, uP, ub1⟩ ?_
          intro zs3 o3 c3 hz3
          have hs1 := RowG.app unil rfl hlT.symm hU hz3.1 hz3.2.1 hz3.2.2
          refine And.intro rfl (And.intro rfl ?_)
          refine And.intro ⟨⟨hz3.1, hz3.2.1, rfl⟩, ⟨rfl, rfl⟩, ub2⟩ ?_
          intro zs4 o4 c4 hz4
          have hs2 := RowG.snoc (x := foldB s.user) hs1 (by simp [hlT]) hz4.1 hz4.2.1 hz4.2.2
          refine And.intro rfl (And.intro rfl ?_)
          refine And.intro ⟨⟨hz4.1, hz4.2.1, rfl⟩, uQ, ub3⟩ ?_
          intro zs5 o5 c5 hz5
          have hs3 := RowG.app hs2 (by simp [hlT]) hlD.symm hQ hz5.1 hz5.2.1 hz5.2.2
          exact finReg i _ zs5 o5 c5 _ _ _ _ _ _ hI rfl hs3
    · have hil : i = w.us.length := by have t1 := of_decide_eq_false t1; omega
      have hI := last (fun h => absurd h (by omega))
      have hU := RowG.pre bcl_len hk.u hi
      have uP := rowHead bcl_len bcl_ok hk.u hi
      refine And.intro ⟨Int.natCast_nonneg i, rowLeC hk.u hi⟩ (And.intro ⟨Int.natCast_nonneg i, Int.ofNat_le.2 hi⟩ ?_)
      refine Exists.elim (⟨_, rfl⟩ : ∃ o', o' = if q.u.c = (i : Int).toNat then q.u.o else q.u.o + (i : Int).toNat * 1) fun u2 hu2 => ?_
      refine Exists.intro u2 (And.intro hu2 ?_)
      have hQ := RowG.post bcl_len hk.u hi hu2
      have uQ := rowTail bcl_len bcl_ok hk.u hi hu2
      have hlT : (w.us.take i).length = i := takeLen hi
      have hlD : (w.us.drop i).length = w.us.length - i := List.length_drop
      have ub1 := small16 (n := 0 + i) (smallA hi hul)
      have ub2 := small16 (n := 0 + i + 1) (smallB hi hul)
      have ub3 := small16 (n := 0 + i + 1 + (w.us.length - i)) (smallC hi hul)
      have unil : RowG bcl 1 [] 0 0 [] := RowG.nilS
      refine And.intro ?e ?f
      case e =>
        refine And.intro rfl (And.intro rfl (And.intro rfl (And.intro rfl ?_)))
        refine And.intro ?e1 ?e2
        case e1 =>
          refine And.intro ⟨⟨Nat.zero_le _, by simp, rfl⟩, uP, ub1⟩ ?_
          intro zs3 o3 c3 hz3
          have hs1 := RowG.app unil rfl hlT.symm hU hz3.1 hz3.2.1 hz3.2.2
          refine And.intro rfl (And.intro rfl ?_)
          refine And.intro rfl (And.intro rfl ?_)
          refine And.intro ⟨⟨hz3.1, hz3.2.1, rfl⟩, ⟨rfl, rfl⟩, ub2⟩ ?_
          intro zs4 o4 c4 hz4
          have hs2 := RowG.snoc (x := foldB s.user) hs1 (by simp [hlT]) hz4.1 hz4.2.1 hz4.2.2
          refine And.intro rfl (And.intro rfl ?_)
          refine And.intro ⟨⟨hz4.1, hz4.2.1, rfl⟩, uQ, ub3⟩ ?_
          intro zs5 o5 c5 hz5
          have hs3 := RowG.app hs2 (by simp [hlT]) hlD.symm hQ hz5.1 hz5.2.1 hz5.2.2
          exact finReg i _ zs5 o5 c5 _ _ _ _ _ _ hI rfl hs3
        case e2 =>
          refine And.intro rfl (And.intro rfl (And.intro rfl (And.intro rfl ?_)))
          refine And.intro ⟨⟨Nat.zero_le _, by simp, rfl⟩, uP, ub1⟩ ?_
          intro zs3 o3 c3 hz3
          have hs1 := RowG.app unil rfl hlT.symm hU hz3.1 hz3.2.1 hz3.2.2
          refine And.intro rfl (And.intro rfl ?_)
          refine And.intro ⟨⟨hz3.1, hz3.2.1, rfl⟩, ⟨rfl, rfl⟩, ub2⟩ ?_
          intro zs4 o4 c4 hz4
          have hs2 := RowG.snoc (x := foldB s.user) hs1 (by simp [hlT]) hz4.1 hz4.2.1 hz4.2.2
          refine And.intro rfl (And.intro rfl ?_)
          refine And.intro ⟨⟨hz4.1, hz4.2.1, rfl⟩, uQ, ub3⟩ ?_
          intro zs5 o5 c5 hz5
          have hs3 := RowG.app hs2 (by simp [hlT]) hlD.symm hQ hz5.1 hz5.2.1 hz5.2.2
          exact finReg i _ zs5 o5 c5 _ _ _ _ _ _ hI rfl hs3
      case f =>
        refine And.intro rfl (And.intro rfl (And.intro rfl (And.intro rfl ?_)))
        refine And.intro rfl (And.intro rfl (And.intro rfl (And.intro rfl ?_)))
        refine And.intro ⟨⟨Nat.zero_le _, by simp, rfl⟩, uP, ub1⟩ ?_
        intro zs3 o3 c3 hz3
        have hs1 := RowG.app unil rfl hlT.symm hU hz3.1 hz3.2.1 hz3.2.2
        refine And.intro rfl (And.intro rfl ?_)
        refine And.intro ⟨⟨hz3.1, hz3.2.1, rfl⟩, ⟨rfl, rfl⟩, ub2⟩ ?_
        intro zs4 o4 c4 hz4
        have hs2 := RowG.snoc (x := foldB s.user) hs1 (by simp [hlT]) hz4.1 hz4.2.1 hz4.2.2
        refine And.intro rfl (And.intro rfl ?_)
        refine And.intro ⟨⟨hz4.1, hz4.2.1, rfl⟩, uQ, ub3⟩ ?_
        intro zs5 o5 c5 hz5
        have hs3 := RowG.app hs2 (by simp [hlT]) hlD.symm hQ hz5.1 hz5.2.1 hz5.2.2
        exact finReg i _ zs5 o5 c5 _ _ _ _ _ _ hI rfl hs3
end Go.Proofs

namespace Go.Proofs
open Go Go.V Go.Lib
set_option maxRecDepth 100000
set_option linter.unusedVariables false

theorem small8 {n : Nat} (h : n ≤ 5000) : n * 8 ≤ 1099511627776 := by omega
theorem whole1 {α : Type} {cl : α → List Value} {k : Nat} (hk : ∀ x, (cl x).length = k) (hc : ∀ x l, cellsOK l = true → cellsOK (cl x ++ l) = true) {xs : List Value} {o c : Nat} {l : List α} (h : RowG cl k xs o c l) :
    ((xs.drop o).take (l.length * k)).length = l.length * k ∧ cellsOK ((xs.drop o).take (l.length * k)) = true := by
  rw [h.2.2]; exact ⟨fm_len hk l, fm_ok hc l⟩
theorem wrapSub {a b : Int} {n : Nat} (h1 : 0 ≤ a) (h2 : a ≤ 1125899906842624) (h3 : 0 ≤ b) (h4 : b ≤ 1000000000 * n) (h5 : n ≤ 1000) : IntKind.i64.wrap (a - b) = a - b := wrap64 (by omega)
set_option maxHeartbeats 4000000 in
theorem s_refDo6 (h : Nat → Option Obj) (hu : Uni h) (hc : CaseH h) (w : RH) (q : RQ) (hk : RK w q) (hs : ∀ n, n ∈ w.su → 0 ≤ n ∧ n ≤ 1000000000) (hn : w.R.length < 1000) (hn2 : w.sp.length < 1000) (s : ST) (h1 : s.name.size ≤ 1000) (h2 : s.user.size ≤ 1000) (h6 : s.kind = 6) :
    Ctr Tryz.prog F_rostrumref24_House_Do [.ptr 0 0, .agg (stcells s)] (hoR w q ++ [.heap h]) (RDid h w q s) := by
  have hkD : ∀ zs o c, RowG stcl 19 zs o c (w.R ++ [s]) → RK (w.did s) { q with r := ⟨zs, o, c⟩ } := fun zs o c hr =>
    ⟨hk.l, hr, hk.u, hk.p, hk.s, hk.e, hk.ll, by show (w.R ++ [s]).length ≤ 1000; simp; omega, hk.ul, hk.pl, hk.sl, hk.el⟩
  have hkP : ∀ zs o c, RowG stcl 19 zs o c (w.R ++ [s]) → ∀ zs2 o2 c2, RowG bcl 1 zs2 o2 c2 (w.sp ++ [foldB s.user]) → ∀ zs3 o3 c3, RowG ncl 1 zs3 o3 c3 (w.su ++ [s.amount]) → RK (w.pay s) { q with r := ⟨zs, o, c⟩, p := ⟨zs2, o2, c2⟩, s := ⟨zs3, o3, c3⟩ } := fun zs o c hr zs2 o2 c2 hp zs3 o3 c3 hq =>
    ⟨hk.l, hr, hk.u, hp, hq, hk.e, hk.ll, by show (w.R ++ [s]).length ≤ 1000; simp; omega, hk.ul, by show (w.sp ++ [foldB s.user]).length ≤ 1000; simp; omega, by show (w.su ++ [s.amount]).length = (w.sp ++ [foldB s.user]).length; simp [hk.sl], hk.el⟩
  have finPay : ∀ (n m : Nat) (zs xs ys : List Value) (o c o4 c4 o6 c6 : Nat) (Z A B C D E F G I J : SO) (l : List SO), n = 0 + w.sp.length + 1 → m = 0 + w.su.length + 1 → ¬ s.funds - wdS (foldB s.user) w.sp w.su < s.amount →
      RowG stcl 19 zs o c (w.R ++ [s]) → RowG bcl 1 xs o4 c4 (w.sp ++ [foldB s.user]) → RowG ncl 1 ys o6 c6 (w.su ++ [s.amount]) → refDE w s = 0 →
      VRet 8 (.tup [bv true, iv 0]) (hoRY (0 + w.R.length + 1) w.us.length n m w.cl.length w { q with r := ⟨zs, o, c⟩, p := ⟨xs, o4, c4⟩, s := ⟨ys, o6, c6⟩ } q 12 3 16 20 6 ++ [.heap h, Z, A, B, C, .arr zs T_rostrumref24_Step, D, E, F, .arr xs T_string, G, I, J, .arr ys T_int64] ++ l) (RDid h w q s) := by
    intro n m zs xs ys o c o4 c4 o6 c6 Z A B C D E F G I J l hn hm hf hr hp hq he
    have e1 : 0 + w.R.length + 1 = (w.did s).R.length := by show _ = (w.R ++ [s]).length; simp
    have e2 : n = (w.pay s).sp.length := by show _ = (w.sp ++ [foldB s.user]).length; simp [hn]
    have e3 : m = (w.pay s).su.length := by show _ = (w.su ++ [s.amount]).length; simp [hm]
    subst e2 e3
    rw [e1]
    exact VRet.mk [0, 1, 2, 3, 4, 5, 6, 7, 12, 16, 20] (.tup [bv true, iv 0]) (hoRX (w.pay s) { q with r := ⟨zs, o, c⟩, p := ⟨xs, o4, c4⟩, s := ⟨ys, o6, c6⟩ } q 8 3 9 10 6 ++ [.heap h, .arr zs T_rostrumref24_Step, .arr xs T_string, .arr ys T_int64]) ⟨rfl, rfl, rfl⟩
      (.pay ⟨zs, o, c⟩ ⟨xs, o4, c4⟩ ⟨ys, o6, c6⟩ he h6 hf (hkP zs o c hr xs o4 c4 hp ys o6 c6 hq))
  have fin : ∀ (e : Int) (l : List SO), e ≠ 0 → refDE w s = e → VRet 8 (.tup [bv false, iv e]) (hoR w q ++ .heap h :: l) (RDid h w q s) := by
    intro e l he hb
    subst hb
    exact VRet.mk [0, 1, 2, 3, 4, 5, 6, 7] (.tup [bv false, iv (refDE w s)]) (hoR w q ++ [.heap h]) ⟨rfl, rfl, rfl⟩ (.bad he)
  have finNo : ∀ (n : Nat) (zs : List Value) (o c : Nat) (Z A B C : SO) (l : List SO), refDE w s = 0 → (s.kind = 5 ∧ regF w (foldB s.user) = true ∨ s.kind = 6 ∧ s.funds - wdS (foldB s.user) w.sp w.su < s.amount ∨ s.kind = 7 ∧ mayR w s = false) → n = (w.R ++ [s]).length → RowG stcl 19 zs o c (w.R ++ [s]) →
      VRet 8 (.tup [bv false, iv 0]) (hoRY n w.us.length w.sp.length w.su.length w.cl.length w { q with r := ⟨zs, o, c⟩ } q 12 3 4 5 6 ++ [.heap h, Z, A, B, C, .arr zs T_rostrumref24_Step] ++ l) (RDid h w q s) := by
    rintro _ zs o c Z A B C l he hw rfl hr
    exact VRet.mk [0, 1, 2, 3, 4, 5, 6, 7, 12] (.tup [bv false, iv 0]) (hoRX (w.did s) { q with r := ⟨zs, o, c⟩ } q 8 3 4 5 6 ++ [.heap h, .arr zs T_rostrumref24_Step]) ⟨rfl, rfl, rfl⟩ (.no ⟨zs, o, c⟩ he hw (hkD zs o c hr))
  refine i_rostrumref24_House_Do.spec follows ?_
  refine VCall.mk [7] (s_refGood h hu s h1 h2) ⟨rfl, rfl, rfl⟩ ?_
  rintro _ _ ⟨rfl, rfl⟩
  refine And.intro (fun k1 => ?_) (fun k1 => fin 1 _ (by decide) (by have k1 := nT k1; rw [refDE, k1]; rfl))
  have k1 := nF k1
  refine And.intro (fun k2 => fin 1 _ (by decide) (by rw [refDE, show decide (s.kind < 5) = true from k2]; simp)) (fun k2 => ?_)
  have k2 : decide (s.kind < 5) = false := k2
  refine VCall.mk [] (s_ref_Le s.seen w.v) ⟨rfl, rfl, rfl⟩ ?_
  rintro _ _ ⟨rfl, rfl⟩
  refine And.intro (fun k3 => ?_) (fun k3 => fin 8 _ (by decide) (by have k3 := nT k3; rw [refDE, k1, k2, k3]; rfl))
  have k3 := nF k3
  refine And.intro (fun k4 => fin 8 _ (by decide) (by rw [refDE, k1, k2, k3, show decide ((w.R.length : Int) < s.reds) = true from k4]; rfl)) (fun k4 => ?_)
  have he : refDE w s = 0 := by rw [refDE, k1, k2, k3, show decide ((w.R.length : Int) < s.reds) = false from k4]; rfl
  have hP : (q.r.xs.drop q.r.o).take (w.R.length * 19) = w.R.flatMap stcl := hk.r.2.2
  have dP : (List.take (w.R.length * 19) (List.drop q.r.o q.r.xs)).length = w.R.length * 19 ∧ cellsOK (List.take (w.R.length * 19) (List.drop q.r.o q.r.xs)) = true := by
    rw [hP]; exact ⟨fm_len stcl_len _, fm_ok stcl_ok _⟩
  have hb1 : (0 + w.R.length) * 168 ≤ 1099511627776 := by have := hk.rl; omega
  have hb2 : (0 + w.R.length + 1) * 168 ≤ 1099511627776 := by have := hk.rl; omega
  have nil0 : RowG stcl 19 [] 0 0 [] := RowG.nilS
  have hlR : (w.R ++ [s]).length = 0 + w.R.length + 1 := by simp
  refine And.intro ?a ?b
  case a =>
    refine And.intro rfl (And.intro rfl (And.intro rfl ?_))
    refine And.intro ?c ?d
    case c =>
      refine And.intro ⟨⟨Nat.zero_le _, by simp, rfl⟩, dP, hb1⟩ ?_
      intro zs1 o1 c1 hz1
      have hr1 := RowG.app nil0 rfl rfl hP hz1.1 hz1.2.1 hz1.2.2
      refine And.intro rfl ?_
      refine And.intro ⟨⟨hz1.1, hz1.2.1, rfl⟩, ⟨rfl, rfl⟩, hb2⟩ ?_
      intro zs2 o2 c2 hz2
      have hr2 := RowG.snoc (x := s) hr1 (by simp) hz2.1 hz2.2.1 hz2.2.2
      refine And.intro (fun k7 => absurd (of_decide_eq_true k7) (fun k => absurd (k.symm.trans h6) (by decide))) (fun k7 => ?_)
      refine And.intro (fun k7 => ?_) (fun k7 => absurd h6 (of_decide_eq_false k7))
      have hr3 : RowG stcl 19 zs2 o2 c2 (w.R ++ [s]) := hr2
      have hE := s_withdrawn h hc (w.did s) { q with r := ⟨zs2, o2, c2⟩ } (hkD zs2 o2 c2 hr3) hs s.user (Nat.le_trans h2 (by decide))
      simp only [hoR, RH.did, hlR] at hE
      refine VCall.mk [0, 1, 12, 3, 4, 5, 6, 7] hE ⟨rfl, rfl, rfl⟩ ?_
      rintro _ _ ⟨rfl, rfl⟩
      have hpl := hk.pl
      have hwb := wdS_bound (foldB s.user) (l := w.sp) (m := w.su) hs
      have hsl := hk.sl
      have sP := whole1 bcl_len bcl_ok hk.p
      have uP := whole1 ncl_len ncl_ok hk.s
      have ub1 := small16 (n := 0 + w.sp.length) (by have := hk.pl; have := hk.sl; clear hE fin finNo finPay hkP hkD; omega)
      have ub2 := small16 (n := 0 + w.sp.length + 1) (by have := hk.pl; have := hk.sl; clear hE fin finNo finPay hkP hkD; omega)
      have vb1 := small8 (n := 0 + w.su.length) (by have := hk.pl; have := hk.sl; clear hE fin finNo finPay hkP hkD; omega)
      have vb2 := small8 (n := 0 + w.su.length + 1) (by have := hk.pl; have := hk.sl; clear hE fin finNo finPay hkP hkD; omega)
      have unil : RowG bcl 1 [] 0 0 [] := RowG.nilS
      have vnil : RowG ncl 1 [] 0 0 [] := RowG.nilS
      have hg6 := good_six k1 h6
      have hw := wrapSub hg6.2.2.1 hg6.2.2.2 hwb.1 hwb.2 (Nat.le_trans (Nat.le_of_eq hsl) hpl)
      refine And.intro rfl (And.intro rfl ?_)
      refine Exists.intro _ (And.intro hw ?_)
      refine And.intro (fun k8 => ?_) (fun k8 => ?_)
      · exact finNo _ zs2 o2 c2 _ _ _ _ _ he (.inr (.inl ⟨h6, of_decide_eq_true k8⟩)) hlR.symm hr3
      refine And.intro rfl (And.intro rfl (And.intro rfl ?_))
      refine And.intro ⟨⟨Nat.zero_le _, by simp, rfl⟩, sP, ub1⟩ ?_
      intro zs3 o3 c3 hz3
      have hs1 := RowG.app unil rfl rfl hk.p.2.2 hz3.1 hz3.2.1 hz3.2.2
      refine And.intro rfl ?_
      refine VCall.mk [7] (s_ref_Fold h hc s.user (Nat.le_trans h2 (by decide))) ⟨rfl, rfl, rfl⟩ ?_
      rintro _ _ ⟨rfl, rfl⟩
      refine And.intro ⟨⟨hz3.1, hz3.2.1, rfl⟩, ⟨rfl, rfl⟩, ub2⟩ ?_
      intro zs4 o4 c4 hz4
      have hs2 : RowG bcl 1 zs4 o4 c4 (w.sp ++ [foldB s.user]) := RowG.snoc (x := foldB s.user) hs1 (by simp) hz4.1 hz4.2.1 hz4.2.2
      refine And.intro ?e ?f
      case e =>
        refine And.intro rfl (And.intro rfl (And.intro rfl ?_))
        refine And.intro ?e1 ?e2
        case e1 =>
          refine And.intro ⟨⟨Nat.zero_le _, by simp, rfl⟩, uP, vb1⟩ ?_
          intro zs5 o5 c5 hz5
          have hs3 := RowG.app vnil rfl rfl hk.s.2.2 hz5.1 hz5.2.1 hz5.2.2
          refine And.intro rfl ?_
          refine And.intro ⟨⟨hz5.1, hz5.2.1, rfl⟩, ⟨rfl, rfl⟩, vb2⟩ ?_
          intro zs6 o6 c6 hz6
          have hs4 : RowG ncl 1 zs6 o6 c6 (w.su ++ [s.amount]) := RowG.snoc (x := s.amount) hs3 (by simp) hz6.1 hz6.2.1 hz6.2.2
          exact finPay _ _ zs2 zs4 zs6 o2 c2 o4 c4 o6 c6 _ _ _ _ _ _ _ _ _ _ _ rfl rfl (of_decide_eq_false k8) hr3 hs2 hs4 he
        case e2 =>
          refine And.intro rfl (And.intro rfl ?_)
          refine And.intro ⟨⟨Nat.zero_le _, by simp, rfl⟩, uP, vb1⟩ ?_
          intro zs5 o5 c5 hz5
          have hs3 := RowG.app vnil rfl rfl hk.s.2.2 hz5.1 hz5.2.1 hz5.2.2
          refine And.intro ⟨⟨hz5.1, hz5.2.1, rfl⟩, ⟨rfl, rfl⟩, vb2⟩ ?_
          intro zs6 o6 c6 hz6
          have hs4 : RowG ncl 1 zs6 o6 c6 (w.su ++ [s.amount]) := RowG.snoc (x := s.amount) hs3 (by simp) hz6.1 hz6.2.1 hz6.2.2
          exact finPay _ _ zs2 zs4 zs6 o2 c2 o4 c4 o6 c6 _ _ _ _ _ _ _ _ _ _ _ rfl rfl (of_decide_eq_false k8) hr3 hs2 hs4 he
      case f =>
        refine And.intro rfl (And.intro rfl ?_)
        refine And.intro rfl (And.intro rfl ?_)
        refine And.intro ⟨⟨Nat.zero_le _, by simp, rfl⟩, uP, vb1⟩ ?_
        intro zs5 o5 c5 hz5
        have hs3 := RowG.app vnil rfl rfl hk.s.2.2 hz5.1 hz5.2.1 hz5.2.2
        refine And.intro ⟨⟨hz5.1, hz5.2.1, rfl⟩, ⟨rfl, rfl⟩, vb2⟩ ?_
        intro zs6 o6 c6 hz6
        have hs4 : RowG ncl 1 zs6 o6 c6 (w.su ++ [s.amount]) := RowG.snoc (x := s.amount) hs3 (by simp) hz6.1 hz6.2.1 hz6.2.2
        exact finPay _ _ zs2 zs4 zs6 o2 c2 o4 c4 o6 c6 _ _ _ _ _ _ _ _ _ _ _ rfl rfl (of_decide_eq_false k8) hr3 hs2 hs4 he
    case d =>
      refine And.intro rfl (And.intro rfl ?_)
      refine And.intro ⟨⟨Nat.zero_le _, by simp, rfl⟩, dP, hb1⟩ ?_
      intro zs1 o1 c1 hz1
      have hr1 := RowG.app nil0 rfl rfl hP hz1.1 hz1.2.1 hz1.2.2
      refine And.intro ⟨⟨hz1.1, hz1.2.1, rfl⟩, ⟨rfl, rfl⟩, hb2⟩ ?_
      intro zs2 o2 c2 hz2
      have hr2 := RowG.snoc (x := s) hr1 (by simp) hz2.1 hz2.2.1 hz2.2.2
      refine And.intro (fun k7 => absurd (of_decide_eq_true k7) (fun k => absurd (k.symm.trans h6) (by decide))) (fun k7 => ?_)
      refine And.intro (fun k7 => ?_) (fun k7 => absurd h6 (of_decide_eq_false k7))
      have hr3 : RowG stcl 19 zs2 o2 c2 (w.R ++ [s]) := hr2
      have hE := s_withdrawn h hc (w.did s) { q with r := ⟨zs2, o2, c2⟩ } (hkD zs2 o2 c2 hr3) hs s.user (Nat.le_trans h2 (by decide))
      simp only [hoR, RH.did, hlR] at hE
      refine VCall.mk [0, 1, 12, 3, 4, 5, 6, 7] hE ⟨rfl, rfl, rfl⟩ ?_
      rintro _ _ ⟨rfl, rfl⟩
      have hpl := hk.pl
      have hwb := wdS_bound (foldB s.user) (l := w.sp) (m := w.su) hs
      have hsl := hk.sl
      have sP := whole1 bcl_len bcl_ok hk.p
      have uP := whole1 ncl_len ncl_ok hk.s
      have ub1 := small16 (n := 0 + w.sp.length) (by have := hk.pl; have := hk.sl; clear hE fin finNo finPay hkP hkD; omega)
      have ub2 := small16 (n := 0 + w.sp.length + 1) (by have := hk.pl; have := hk.sl; clear hE fin finNo finPay hkP hkD; omega)
      have vb1 := small8 (n := 0 + w.su.length) (by have := hk.pl; have := hk.sl; clear hE fin finNo finPay hkP hkD; omega)
      have vb2 := small8 (n := 0 + w.su.length + 1) (by have := hk.pl; have := hk.sl; clear hE fin finNo finPay hkP hkD; omega)
      have unil : RowG bcl 1 [] 0 0 [] := RowG.nilS
      have vnil : RowG ncl 1 [] 0 0 [] := RowG.nilS
      have hg6 := good_six k1 h6
      have hw := wrapSub hg6.2.2.1 hg6.2.2.2 hwb.1 hwb.2 (Nat.le_trans (Nat.le_of_eq hsl) hpl)
      refine And.intro rfl (And.intro rfl ?_)
      refine Exists.intro _ (And.intro hw ?_)
      refine And.intro (fun k8 => ?_) (fun k8 => ?_)
      · exact finNo _ zs2 o2 c2 _ _ _ _ _ he (.inr (.inl ⟨h6, of_decide_eq_true k8⟩)) hlR.symm hr3
      refine And.intro rfl (And.intro rfl (And.intro rfl ?_))
      refine And.intro ⟨⟨Nat.zero_le _, by simp, rfl⟩, sP, ub1⟩ ?_
      intro zs3 o3 c3 hz3
      have hs1 := RowG.app unil rfl rfl hk.p.2.2 hz3.1 hz3.2.1 hz3.2.2
      refine And.intro rfl ?_
      refine VCall.mk [7] (s_ref_Fold h hc s.user (Nat.le_trans h2 (by decide))) ⟨rfl, rfl, rfl⟩ ?_
      rintro _ _ ⟨rfl, rfl⟩
      refine And.intro ⟨⟨hz3.1, hz3.2.1, rfl⟩, ⟨rfl, rfl⟩, ub2⟩ ?_
      intro zs4 o4 c4 hz4
      have hs2 : RowG bcl 1 zs4 o4 c4 (w.sp ++ [foldB s.user]) := RowG.snoc (x := foldB s.user) hs1 (by simp) hz4.1 hz4.2.1 hz4.2.2
      refine And.intro ?e ?f
      case e =>
        refine And.intro rfl (And.intro rfl (And.intro rfl ?_))
        refine And.intro ?e1 ?e2
        case e1 =>
          refine And.intro ⟨⟨Nat.zero_le _, by simp, rfl⟩, uP, vb1⟩ ?_
          intro zs5 o5 c5 hz5
          have hs3 := RowG.app vnil rfl rfl hk.s.2.2 hz5.1 hz5.2.1 hz5.2.2
          refine And.intro rfl ?_
          refine And.intro ⟨⟨hz5.1, hz5.2.1, rfl⟩, ⟨rfl, rfl⟩, vb2⟩ ?_
          intro zs6 o6 c6 hz6
          have hs4 : RowG ncl 1 zs6 o6 c6 (w.su ++ [s.amount]) := RowG.snoc (x := s.amount) hs3 (by simp) hz6.1 hz6.2.1 hz6.2.2
          exact finPay _ _ zs2 zs4 zs6 o2 c2 o4 c4 o6 c6 _ _ _ _ _ _ _ _ _ _ _ rfl rfl (of_decide_eq_false k8) hr3 hs2 hs4 he
        case e2 =>
          refine And.intro rfl (And.intro rfl ?_)
          refine And.intro ⟨⟨Nat.zero_le _, by simp, rfl⟩, uP, vb1⟩ ?_
          intro zs5 o5 c5 hz5
          have hs3 := RowG.app vnil rfl rfl hk.s.2.2 hz5.1 hz5.2.1 hz5.2.2
          refine And.intro ⟨⟨hz5.1, hz5.2.1, rfl⟩, ⟨rfl, rfl⟩, vb2⟩ ?_
          intro zs6 o6 c6 hz6
          have hs4 : RowG ncl 1 zs6 o6 c6 (w.su ++ [s.amount]) := RowG.snoc (x := s.amount) hs3 (by simp) hz6.1 hz6.2.1 hz6.2.2
          exact finPay _ _ zs2 zs4 zs6 o2 c2 o4 c4 o6 c6 _ _ _ _ _ _ _ _ _ _ _ rfl rfl (of_decide_eq_false k8) hr3 hs2 hs4 he
      case f =>
        refine And.intro rfl (And.intro rfl ?_)
        refine And.intro rfl (And.intro rfl ?_)
        refine And.intro ⟨⟨Nat.zero_le _, by simp, rfl⟩, uP, vb1⟩ ?_
        intro zs5 o5 c5 hz5
        have hs3 := RowG.app vnil rfl rfl hk.s.2.2 hz5.1 hz5.2.1 hz5.2.2
        refine And.intro ⟨⟨hz5.1, hz5.2.1, rfl⟩, ⟨rfl, rfl⟩, vb2⟩ ?_
        intro zs6 o6 c6 hz6
        have hs4 : RowG ncl 1 zs6 o6 c6 (w.su ++ [s.amount]) := RowG.snoc (x := s.amount) hs3 (by simp) hz6.1 hz6.2.1 hz6.2.2
        exact finPay _ _ zs2 zs4 zs6 o2 c2 o4 c4 o6 c6 _ _ _ _ _ _ _ _ _ _ _ rfl rfl (of_decide_eq_false k8) hr3 hs2 hs4 he
  case b =>
    refine And.intro rfl (And.intro rfl ?_)
    refine And.intro rfl (And.intro rfl ?_)
    refine And.intro ⟨⟨Nat.zero_le _, by simp, rfl⟩, dP, hb1⟩ ?_
    intro zs1 o1 c1 hz1
    have hr1 := RowG.app nil0 rfl rfl hP hz1.1 hz1.2.1 hz1.2.2
    refine And.intro ⟨⟨hz1.1, hz1.2.1, rfl⟩, ⟨rfl, rfl⟩, hb2⟩ ?_
    intro zs2 o2 c2 hz2
    have hr2 := RowG.snoc (x := s) hr1 (by simp) hz2.1 hz2.2.1 hz2.2.2
    refine And.intro (fun k7 => absurd (of_decide_eq_true k7) (fun k => absurd (k.symm.trans h6) (by decide))) (fun k7 => ?_)
    refine And.intro (fun k7 => ?_) (fun k7 => absurd h6 (of_decide_eq_false k7))
    have hr3 : RowG stcl 19 zs2 o2 c2 (w.R ++ [s]) := hr2
    have hE := s_withdrawn h hc (w.did s) { q with r := ⟨zs2, o2, c2⟩ } (hkD zs2 o2 c2 hr3) hs s.user (Nat.le_trans h2 (by decide))
    simp only [hoR, RH.did, hlR] at hE
    refine VCall.mk [0, 1, 12, 3, 4, 5, 6, 7] hE ⟨rfl, rfl, rfl⟩ ?_
    rintro _ _ ⟨rfl, rfl⟩
    have hpl := hk.pl
    have hwb := wdS_bound (foldB s.user) (l := w.sp) (m := w.su) hs
    have hsl := hk.sl
    have sP := whole1 bcl_len bcl_ok hk.p
    have uP := whole1 ncl_len ncl_ok hk.s
    have ub1 := small16 (n := 0 + w.sp.length) (by have := hk.pl; have := hk.sl; clear hE fin finNo finPay hkP hkD; omega)
    have ub2 := small16 (n := 0 + w.sp.length + 1) (by have := hk.pl; have := hk.sl; clear hE fin finNo finPay hkP hkD; omega)
    have vb1 := small8 (n := 0 + w.su.length) (by have := hk.pl; have := hk.sl; clear hE fin finNo finPay hkP hkD; omega)
    have vb2 := small8 (n := 0 + w.su.length + 1) (by have := hk.pl; have := hk.sl; clear hE fin finNo finPay hkP hkD; omega)
    have unil : RowG bcl 1 [] 0 0 [] := RowG.nilS
    have vnil : RowG ncl 1 [] 0 0 [] := RowG.nilS
    have hg6 := good_six k1 h6
    have hw := wrapSub hg6.2.2.1 hg6.2.2.2 hwb.1 hwb.2 (Nat.le_trans (Nat.le_of_eq hsl) hpl)
    refine And.intro rfl (And.intro rfl ?_)
    refine Exists.intro _ (And.intro hw ?_)
    refine And.intro (fun k8 => ?_) (fun k8 => ?_)
    · exact finNo _ zs2 o2 c2 _ _ _ _ _ he (.inr (.inl ⟨h6, of_decide_eq_true k8⟩)) hlR.symm hr3
    refine And.intro rfl (And.intro rfl (And.intro rfl ?_))
    refine And.intro ⟨⟨Nat.zero_le _, by simp, rfl⟩, sP, ub1⟩ ?_
    intro zs3 o3 c3 hz3
    have hs1 := RowG.app unil rfl rfl hk.p.2.2 hz3.1 hz3.2.1 hz3.2.2
    refine And.intro rfl ?_
    refine VCall.mk [7] (s_ref_Fold h hc s.user (Nat.le_trans h2 (by decide))) ⟨rfl, rfl, rfl⟩ ?_
    rintro _ _ ⟨rfl, rfl⟩
    refine And.intro ⟨⟨hz3.1, hz3.2.1, rfl⟩, ⟨rfl, rfl⟩, ub2⟩ ?_
    intro zs4 o4 c4 hz4
    have hs2 : RowG bcl 1 zs4 o4 c4 (w.sp ++ [foldB s.user]) := RowG.snoc (x := foldB s.user) hs1 (by simp) hz4.1 hz4.2.1 hz4.2.2
    refine And.intro ?e ?f
    case e =>
      refine And.intro rfl (And.intro rfl (And.intro rfl ?_))
      refine And.intro ?e1 ?e2
      case e1 =>
        refine And.intro ⟨⟨Nat.zero_le _, by simp, rfl⟩, uP, vb1⟩ ?_
        intro zs5 o5 c5 hz5
        have hs3 := RowG.app vnil rfl rfl hk.s.2.2 hz5.1 hz5.2.1 hz5.2.2
        refine And.intro rfl ?_
        refine And.intro ⟨⟨hz5.1, hz5.2.1, rfl⟩, ⟨rfl, rfl⟩, vb2⟩ ?_
        intro zs6 o6 c6 hz6
        have hs4 : RowG ncl 1 zs6 o6 c6 (w.su ++ [s.amount]) := RowG.snoc (x := s.amount) hs3 (by simp) hz6.1 hz6.2.1 hz6.2.2
        exact finPay _ _ zs2 zs4 zs6 o2 c2 o4 c4 o6 c6 _ _ _ _ _ _ _ _ _ _ _ rfl rfl (of_decide_eq_false k8) hr3 hs2 hs4 he
      case e2 =>
        refine And.intro rfl (And.intro rfl ?_)
        refine And.intro ⟨⟨Nat.zero_le _, by simp, rfl⟩, uP, vb1⟩ ?_
        intro zs5 o5 c5 hz5
        have hs3 := RowG.app vnil rfl rfl hk.s.2.2 hz5.1 hz5.2.1 hz5.2.2
        refine And.intro ⟨⟨hz5.1, hz5.2.1, rfl⟩, ⟨rfl, rfl⟩, vb2⟩ ?_
        intro zs6 o6 c6 hz6
        have hs4 : RowG ncl 1 zs6 o6 c6 (w.su ++ [s.amount]) := RowG.snoc (x := s.amount) hs3 (by simp) hz6.1 hz6.2.1 hz6.2.2
        exact finPay _ _ zs2 zs4 zs6 o2 c2 o4 c4 o6 c6 _ _ _ _ _ _ _ _ _ _ _ rfl rfl (of_decide_eq_false k8) hr3 hs2 hs4 he
    case f =>
      refine And.intro rfl (And.intro rfl ?_)
      refine And.intro rfl (And.intro rfl ?_)
      refine And.intro ⟨⟨Nat.zero_le _, by simp, rfl⟩, uP, vb1⟩ ?_
      intro zs5 o5 c5 hz5
      have hs3 := RowG.app vnil rfl rfl hk.s.2.2 hz5.1 hz5.2.1 hz5.2.2
      refine And.intro ⟨⟨hz5.1, hz5.2.1, rfl⟩, ⟨rfl, rfl⟩, vb2⟩ ?_
      intro zs6 o6 c6 hz6
      have hs4 : RowG ncl 1 zs6 o6 c6 (w.su ++ [s.amount]) := RowG.snoc (x := s.amount) hs3 (by simp) hz6.1 hz6.2.1 hz6.2.2
      exact finPay _ _ zs2 zs4 zs6 o2 c2 o4 c4 o6 c6 _ _ _ _ _ _ _ _ _ _ _ rfl rfl (of_decide_eq_false k8) hr3 hs2 hs4 he
end Go.Proofs

namespace Go.Proofs
open Go Go.V Go.Lib
set_option maxRecDepth 100000
set_option linter.unusedVariables false

theorem wrapI {i n : Nat} (h : i < n) (hn : n ≤ 1000) : IntKind.i64.wrap ((i : Int) + 1) = ((i + 1 : Nat) : Int) := wrap64 (by omega)
theorem small168 {n : Nat} (h : n ≤ 1000) : (n + 1) * 168 ≤ 1099511627776 := by omega
theorem small56 {n : Nat} (h : n ≤ 5000) : n * 56 ≤ 1099511627776 := by omega
theorem lt5 {n : Nat} (h : n < 1000) : 0 + n ≤ 5000 := by omega
theorem lt5' {n : Nat} (h : n < 1000) : 0 + n + 1 ≤ 5000 := by omega
theorem good_kind {s : ST} (h : goodT s = true) : 1 ≤ s.kind ∧ s.kind ≤ 7 := by
  simp only [goodT, headT, Bool.and_eq_true, decide_eq_true_eq] at h; omega
theorem subLt {i n : Nat} (h : i < n) : n - (i + 1) < n - i := by omega
theorem outAt_k {l : List ST} {k : Nat} (h : k < l.length) : outAt l (k : Int) = ⟨l[k].rep, l[k].n, l[k].user, l[k].amount⟩ := by
  have e : l.getD (k : Int).toNat zeroT' = l[k] := by rw [Int.toNat_natCast, List.getD_eq_getElem?_getD, List.getElem?_eq_getElem h]; rfl
  rw [outAt, show decide ((0 : Int) ≤ (k : Int)) = true from decide_eq_true (Int.natCast_nonneg k), e]; rfl
set_option maxHeartbeats 4000000 in
theorem s_refDo7a (h : Nat → Option Obj) (hu : Uni h) (hc : CaseH h) (w : RH) (q : RQ) (hk : RK w q) (hn : w.R.length < 1000) (s : ST) (h1 : s.name.size ≤ 1000) (h2 : s.user.size ≤ 1000) (h7 : s.kind = 7) (o : OC) (hwin : winR w (s.ar, s.an) = some o) :
    Ctr Tryz.prog F_rostrumref24_House_Do [.ptr 0 0, .agg (stcells s)] (hoR w q ++ [.heap h]) (RDid h w q s) := by
  have hkD : ∀ zs o c, RowG stcl 19 zs o c (w.R ++ [s]) → RK (w.did s) { q with r := ⟨zs, o, c⟩ } := fun zs o c hr =>
    ⟨hk.l, hr, hk.u, hk.p, hk.s, hk.e, hk.ll, by show (w.R ++ [s]).length ≤ 1000; simp; omega, hk.ul, hk.pl, hk.sl, hk.el⟩
  have fin : ∀ (e : Int) (l : List SO), e ≠ 0 → refDE w s = e → VRet 8 (.tup [bv false, iv e]) (hoR w q ++ .heap h :: l) (RDid h w q s) := by
    intro e l he hb
    subst hb
    exact VRet.mk [0, 1, 2, 3, 4, 5, 6, 7] (.tup [bv false, iv (refDE w s)]) (hoR w q ++ [.heap h]) ⟨rfl, rfl, rfl⟩ (.bad he)
  have finNo : ∀ (n : Nat) (zs : List Value) (o c : Nat) (Z A B C : SO) (l : List SO), refDE w s = 0 → (s.kind = 5 ∧ regF w (foldB s.user) = true ∨ s.kind = 6 ∧ s.funds - wdS (foldB s.user) w.sp w.su < s.amount ∨ s.kind = 7 ∧ mayR w s = false) → n = (w.R ++ [s]).length → RowG stcl 19 zs o c (w.R ++ [s]) →
      VRet 8 (.tup [bv false, iv 0]) (hoRY n w.us.length w.sp.length w.su.length w.cl.length w { q with r := ⟨zs, o, c⟩ } q 12 3 4 5 6 ++ [.heap h, Z, A, B, C, .arr zs T_rostrumref24_Step] ++ l) (RDid h w q s) := by
    rintro _ zs o c Z A B C l he hw rfl hr
    exact VRet.mk [0, 1, 2, 3, 4, 5, 6, 7, 12] (.tup [bv false, iv 0]) (hoRX (w.did s) { q with r := ⟨zs, o, c⟩ } q 8 3 4 5 6 ++ [.heap h, .arr zs T_rostrumref24_Step]) ⟨rfl, rfl, rfl⟩ (.no ⟨zs, o, c⟩ he hw (hkD zs o c hr))
  refine i_rostrumref24_House_Do.spec follows ?_
  refine VCall.mk [7] (s_refGood h hu s h1 h2) ⟨rfl, rfl, rfl⟩ ?_
  rintro _ _ ⟨rfl, rfl⟩
  refine And.intro (fun k1 => ?_) (fun k1 => fin 1 _ (by decide) (by have k1 := nT k1; rw [refDE, k1]; rfl))
  have k1 := nF k1
  refine And.intro (fun k2 => fin 1 _ (by decide) (by rw [refDE, show decide (s.kind < 5) = true from k2]; simp)) (fun k2 => ?_)
  have k2 : decide (s.kind < 5) = false := k2
  refine VCall.mk [] (s_ref_Le s.seen w.v) ⟨rfl, rfl, rfl⟩ ?_
  rintro _ _ ⟨rfl, rfl⟩
  refine And.intro (fun k3 => ?_) (fun k3 => fin 8 _ (by decide) (by have k3 := nT k3; rw [refDE, k1, k2, k3]; rfl))
  have k3 := nF k3
  refine And.intro (fun k4 => fin 8 _ (by decide) (by rw [refDE, k1, k2, k3, show decide ((w.R.length : Int) < s.reds) = true from k4]; rfl)) (fun k4 => ?_)
  have he : refDE w s = 0 := by rw [refDE, k1, k2, k3, show decide ((w.R.length : Int) < s.reds) = false from k4]; rfl
  have hP : (q.r.xs.drop q.r.o).take (w.R.length * 19) = w.R.flatMap stcl := hk.r.2.2
  have dP : (List.take (w.R.length * 19) (List.drop q.r.o q.r.xs)).length = w.R.length * 19 ∧ cellsOK (List.take (w.R.length * 19) (List.drop q.r.o q.r.xs)) = true := by
    rw [hP]; exact ⟨fm_len stcl_len _, fm_ok stcl_ok _⟩
  have hb1 : (0 + w.R.length) * 168 ≤ 1099511627776 := by have := hk.rl; omega
  have hb2 : (0 + w.R.length + 1) * 168 ≤ 1099511627776 := by have := hk.rl; omega
  have nil0 : RowG stcl 19 [] 0 0 [] := RowG.nilS
  have hlR : (w.R ++ [s]).length = 0 + w.R.length + 1 := by simp
  refine And.intro ?a ?b
  case a =>
    refine And.intro rfl (And.intro rfl (And.intro rfl ?_))
    refine And.intro ?c ?d
    case c =>
      refine And.intro ⟨⟨Nat.zero_le _, by simp, rfl⟩, dP, hb1⟩ ?_
      intro zs1 o1 c1 hz1
      have hr1 := RowG.app nil0 rfl rfl hP hz1.1 hz1.2.1 hz1.2.2
      refine And.intro rfl ?_
      refine And.intro ⟨⟨hz1.1, hz1.2.1, rfl⟩, ⟨rfl, rfl⟩, hb2⟩ ?_
      intro zs2 o2 c2 hz2
      have hr2 := RowG.snoc (x := s) hr1 (by simp) hz2.1 hz2.2.1 hz2.2.2
      refine And.intro (fun k7 => absurd (of_decide_eq_true k7) (fun k => absurd (k.symm.trans h7) (by decide))) (fun k7 => ?_)
      refine And.intro (fun k7 => absurd (of_decide_eq_true k7) (fun k => absurd (k.symm.trans h7) (by decide))) (fun k7 => ?_)
      have hr3 : RowG stcl 19 zs2 o2 c2 (w.R ++ [s]) := hr2
      have hF := s_find (w.did s) { q with r := ⟨zs2, o2, c2⟩ } (hkD zs2 o2 c2 hr3) 1 (s.ar, s.an)
      have hW := s_refWinner (w.did s) { q with r := ⟨zs2, o2, c2⟩ } (hkD zs2 o2 c2 hr3) (s.ar, s.an)
      rw [show winR (w.did s) (s.ar, s.an) = _ from hwin] at hW
      simp only [hoR, RH.did, hlR] at hF hW
      refine VCall.mk [0, 1, 12, 3, 4, 5, 6] hF ⟨rfl, rfl, rfl⟩ ?_
      rintro _ _ ⟨rfl, rfl⟩
      refine VCall.mk [0, 1, 12, 3, 4, 5, 6] hW ⟨rfl, rfl, rfl⟩ ?_
      rintro _ _ ⟨rfl, rfl⟩
      have hmay : mayR w s = false := by rw [mayR, hwin]; simp
      refine And.intro (fun k8 => ?_) (fun k8 => ?_)
      · refine And.intro (fun k9 => absurd k9 (by decide)) (fun k9 => ?_)
        exact finNo _ zs2 o2 c2 _ _ _ _ _ he (.inr (.inr ⟨h7, hmay⟩)) hlR.symm hr3
      · exact finNo _ zs2 o2 c2 _ _ _ _ _ he (.inr (.inr ⟨h7, hmay⟩)) hlR.symm hr3
    case d =>
      refine And.intro rfl (And.intro rfl ?_)
      refine And.intro ⟨⟨Nat.zero_le _, by simp, rfl⟩, dP, hb1⟩ ?_
      intro zs1 o1 c1 hz1
      have hr1 := RowG.app nil0 rfl rfl hP hz1.1 hz1.2.1 hz1.2.2
      refine And.intro ⟨⟨hz1.1, hz1.2.1, rfl⟩, ⟨rfl, rfl⟩, hb2⟩ ?_
      intro zs2 o2 c2 hz2
      have hr2 := RowG.snoc (x := s) hr1 (by simp) hz2.1 hz2.2.1 hz2.2.2
      refine And.intro (fun k7 => absurd (of_decide_eq_true k7) (fun k => absurd (k.symm.trans h7) (by decide))) (fun k7 => ?_)
      refine And.intro (fun k7 => absurd (of_decide_eq_true k7) (fun k => absurd (k.symm.trans h7) (by decide))) (fun k7 => ?_)
      have hr3 : RowG stcl 19 zs2 o2 c2 (w.R ++ [s]) := hr2
      have hF := s_find (w.did s) { q with r := ⟨zs2, o2, c2⟩ } (hkD zs2 o2 c2 hr3) 1 (s.ar, s.an)
      have hW := s_refWinner (w.did s) { q with r := ⟨zs2, o2, c2⟩ } (hkD zs2 o2 c2 hr3) (s.ar, s.an)
      rw [show winR (w.did s) (s.ar, s.an) = _ from hwin] at hW
      simp only [hoR, RH.did, hlR] at hF hW
      refine VCall.mk [0, 1, 12, 3, 4, 5, 6] hF ⟨rfl, rfl, rfl⟩ ?_
      rintro _ _ ⟨rfl, rfl⟩
      refine VCall.mk [0, 1, 12, 3, 4, 5, 6] hW ⟨rfl, rfl, rfl⟩ ?_
      rintro _ _ ⟨rfl, rfl⟩
      have hmay : mayR w s = false := by rw [mayR, hwin]; simp
      refine And.intro (fun k8 => ?_) (fun k8 => ?_)
      · refine And.intro (fun k9 => absurd k9 (by decide)) (fun k9 => ?_)
        exact finNo _ zs2 o2 c2 _ _ _ _ _ he (.inr (.inr ⟨h7, hmay⟩)) hlR.symm hr3
      · exact finNo _ zs2 o2 c2 _ _ _ _ _ he (.inr (.inr ⟨h7, hmay⟩)) hlR.symm hr3
  case b =>
    refine And.intro rfl (And.intro rfl ?_)
    refine And.intro rfl (And.intro rfl ?_)
    refine And.intro ⟨⟨Nat.zero_le _, by simp, rfl⟩, dP, hb1⟩ ?_
    intro zs1 o1 c1 hz1
    have hr1 := RowG.app nil0 rfl rfl hP hz1.1 hz1.2.1 hz1.2.2
    refine And.intro ⟨⟨hz1.1, hz1.2.1, rfl⟩, ⟨rfl, rfl⟩, hb2⟩ ?_
    intro zs2 o2 c2 hz2
    have hr2 := RowG.snoc (x := s) hr1 (by simp) hz2.1 hz2.2.1 hz2.2.2
    refine And.intro (fun k7 => absurd (of_decide_eq_true k7) (fun k => absurd (k.symm.trans h7) (by decide))) (fun k7 => ?_)
    refine And.intro (fun k7 => absurd (of_decide_eq_true k7) (fun k => absurd (k.symm.trans h7) (by decide))) (fun k7 => ?_)
    have hr3 : RowG stcl 19 zs2 o2 c2 (w.R ++ [s]) := hr2
    have hF := s_find (w.did s) { q with r := ⟨zs2, o2, c2⟩ } (hkD zs2 o2 c2 hr3) 1 (s.ar, s.an)
    have hW := s_refWinner (w.did s) { q with r := ⟨zs2, o2, c2⟩ } (hkD zs2 o2 c2 hr3) (s.ar, s.an)
    rw [show winR (w.did s) (s.ar, s.an) = _ from hwin] at hW
    simp only [hoR, RH.did, hlR] at hF hW
    refine VCall.mk [0, 1, 12, 3, 4, 5, 6] hF ⟨rfl, rfl, rfl⟩ ?_
    rintro _ _ ⟨rfl, rfl⟩
    refine VCall.mk [0, 1, 12, 3, 4, 5, 6] hW ⟨rfl, rfl, rfl⟩ ?_
    rintro _ _ ⟨rfl, rfl⟩
    have hmay : mayR w s = false := by rw [mayR, hwin]; simp
    refine And.intro (fun k8 => ?_) (fun k8 => ?_)
    · refine And.intro (fun k9 => absurd k9 (by decide)) (fun k9 => ?_)
      exact finNo _ zs2 o2 c2 _ _ _ _ _ he (.inr (.inr ⟨h7, hmay⟩)) hlR.symm hr3
    · exact finNo _ zs2 o2 c2 _ _ _ _ _ he (.inr (.inr ⟨h7, hmay⟩)) hlR.symm hr3
set_option maxHeartbeats 4000000 in
theorem s_refDo7b (h : Nat → Option Obj) (hu : Uni h) (hc : CaseH h) (w : RH) (q : RQ) (hk : RK w q) (hn : w.R.length < 1000) (hn2 : w.cl.length < 1000) (s : ST) (h1 : s.name.size ≤ 1000) (h2 : s.user.size ≤ 1000) (hz : ∀ t, t ∈ w.L → t.user.size ≤ 100000000) (h7 : s.kind = 7) (hwin : winR w (s.ar, s.an) = none) :
    Ctr Tryz.prog F_rostrumref24_House_Do [.ptr 0 0, .agg (stcells s)] (hoR w q ++ [.heap h]) (RDid h w q s) := by
  have hkD : ∀ zs o c, RowG stcl 19 zs o c (w.R ++ [s]) → RK (w.did s) { q with r := ⟨zs, o, c⟩ } := fun zs o c hr =>
    ⟨hk.l, hr, hk.u, hk.p, hk.s, hk.e, hk.ll, by show (w.R ++ [s]).length ≤ 1000; simp; omega, hk.ul, hk.pl, hk.sl, hk.el⟩
  have hkO : ∀ zs o c, RowG stcl 19 zs o c (w.R ++ [s]) → ∀ zs2 o2 c2 b, RowG ecl 6 zs2 o2 c2 (w.cl ++ [((s.ar, s.an), outAt (liveR w s) b)]) → RK (w.over s b) { q with r := ⟨zs, o, c⟩, e := ⟨zs2, o2, c2⟩ } := fun zs o c hr zs2 o2 c2 b hp =>
    ⟨hk.l, hr, hk.u, hk.p, hk.s, hp, hk.ll, by show (w.R ++ [s]).length ≤ 1000; simp; omega, hk.ul, hk.pl, hk.sl, by show (w.cl ++ [((s.ar, s.an), outAt (liveR w s) b)]).length ≤ 1000; simp; omega⟩
  have finOver : ∀ (b : Int) (n : Nat) (zs xs : List Value) (o c o4 c4 : Nat) (Z A B C D E F : SO) (l : List SO), bestR (liveR w s) (liveR w s).length b → n = 0 + w.cl.length + 1 →
      RowG stcl 19 zs o c (w.R ++ [s]) → RowG ecl 6 xs o4 c4 (w.cl ++ [((s.ar, s.an), outAt (liveR w s) b)]) → refDE w s = 0 → mayR w s = true →
      VRet 8 (.tup [bv true, iv 0]) (hoRY (0 + w.R.length + 1) w.us.length w.sp.length w.su.length n w { q with r := ⟨zs, o, c⟩, e := ⟨xs, o4, c4⟩ } q 9 3 4 5 16 ++ [.heap h, Z, .arr zs T_rostrumref24_Step, A, B, C, D, E, F, .arr xs T_rostrumref24_outcome] ++ l) (RDid h w q s) := by
    intro b n zs xs o c o4 c4 Z A B C D E F l hb hn' hr hp he hmay
    have e1 : 0 + w.R.length + 1 = (w.did s).R.length := by show _ = (w.R ++ [s]).length; simp
    have e2 : n = (w.over s b).cl.length := by show _ = (w.cl ++ [((s.ar, s.an), outAt (liveR w s) b)]).length; simp [hn']
    subst e2
    rw [e1]
    exact VRet.mk [0, 1, 2, 3, 4, 5, 6, 7, 9, 16] (.tup [bv true, iv 0]) (hoRX (w.over s b) { q with r := ⟨zs, o, c⟩, e := ⟨xs, o4, c4⟩ } q 8 3 4 5 9 ++ [.heap h, .arr zs T_rostrumref24_Step, .arr xs T_rostrumref24_outcome]) ⟨rfl, rfl, rfl⟩
      (.over ⟨zs, o, c⟩ ⟨xs, o4, c4⟩ b he h7 hmay hb (hkO zs o c hr xs o4 c4 b hp))
  have fin : ∀ (e : Int) (l : List SO), e ≠ 0 → refDE w s = e → VRet 8 (.tup [bv false, iv e]) (hoR w q ++ .heap h :: l) (RDid h w q s) := by
    intro e l he hb
    subst hb
    exact VRet.mk [0, 1, 2, 3, 4, 5, 6, 7] (.tup [bv false, iv (refDE w s)]) (hoR w q ++ [.heap h]) ⟨rfl, rfl, rfl⟩ (.bad he)
  have finNo : ∀ (n : Nat) (zs : List Value) (o c : Nat) (Z A B C : SO) (l : List SO), refDE w s = 0 → (s.kind = 5 ∧ regF w (foldB s.user) = true ∨ s.kind = 6 ∧ s.funds - wdS (foldB s.user) w.sp w.su < s.amount ∨ s.kind = 7 ∧ mayR w s = false) → n = (w.R ++ [s]).length → RowG stcl 19 zs o c (w.R ++ [s]) →
      VRet 8 (.tup [bv false, iv 0]) (hoRY n w.us.length w.sp.length w.su.length w.cl.length w { q with r := ⟨zs, o, c⟩ } q 12 3 4 5 6 ++ [.heap h, Z, A, B, C, .arr zs T_rostrumref24_Step] ++ l) (RDid h w q s) := by
    rintro _ zs o c Z A B C l he hw rfl hr
    exact VRet.mk [0, 1, 2, 3, 4, 5, 6, 7, 12] (.tup [bv false, iv 0]) (hoRX (w.did s) { q with r := ⟨zs, o, c⟩ } q 8 3 4 5 6 ++ [.heap h, .arr zs T_rostrumref24_Step]) ⟨rfl, rfl, rfl⟩ (.no ⟨zs, o, c⟩ he hw (hkD zs o c hr))
  refine i_rostrumref24_House_Do.spec follows ?_
  refine VCall.mk [7] (s_refGood h hu s h1 h2) ⟨rfl, rfl, rfl⟩ ?_
  rintro _ _ ⟨rfl, rfl⟩
  refine And.intro (fun k1 => ?_) (fun k1 => fin 1 _ (by decide) (by have k1 := nT k1; rw [refDE, k1]; rfl))
  have k1 := nF k1
  refine And.intro (fun k2 => fin 1 _ (by decide) (by rw [refDE, show decide (s.kind < 5) = true from k2]; simp)) (fun k2 => ?_)
  have k2 : decide (s.kind < 5) = false := k2
  refine VCall.mk [] (s_ref_Le s.seen w.v) ⟨rfl, rfl, rfl⟩ ?_
  rintro _ _ ⟨rfl, rfl⟩
  refine And.intro (fun k3 => ?_) (fun k3 => fin 8 _ (by decide) (by have k3 := nT k3; rw [refDE, k1, k2, k3]; rfl))
  have k3 := nF k3
  refine And.intro (fun k4 => fin 8 _ (by decide) (by rw [refDE, k1, k2, k3, show decide ((w.R.length : Int) < s.reds) = true from k4]; rfl)) (fun k4 => ?_)
  have he : refDE w s = 0 := by rw [refDE, k1, k2, k3, show decide ((w.R.length : Int) < s.reds) = false from k4]; rfl
  have hP : (q.r.xs.drop q.r.o).take (w.R.length * 19) = w.R.flatMap stcl := hk.r.2.2
  have dP : (List.take (w.R.length * 19) (List.drop q.r.o q.r.xs)).length = w.R.length * 19 ∧ cellsOK (List.take (w.R.length * 19) (List.drop q.r.o q.r.xs)) = true := by
    rw [hP]; exact ⟨fm_len stcl_len _, fm_ok stcl_ok _⟩
  have hb1 : (0 + w.R.length) * 168 ≤ 1099511627776 := by have := hk.rl; omega
  have hb2 : (0 + w.R.length + 1) * 168 ≤ 1099511627776 := by have := hk.rl; omega
  have nil0 : RowG stcl 19 [] 0 0 [] := RowG.nilS
  have hlR : (w.R ++ [s]).length = 0 + w.R.length + 1 := by simp
  refine And.intro ?a ?b
  case a =>
    refine And.intro rfl (And.intro rfl (And.intro rfl ?_))
    refine And.intro ?c ?d
    case c =>
      refine And.intro ⟨⟨Nat.zero_le _, by simp, rfl⟩, dP, hb1⟩ ?_
      intro zs1 o1 c1 hz1
      have hr1 := RowG.app nil0 rfl rfl hP hz1.1 hz1.2.1 hz1.2.2
      refine And.intro rfl ?_
      refine And.intro ⟨⟨hz1.1, hz1.2.1, rfl⟩, ⟨rfl, rfl⟩, hb2⟩ ?_
      intro zs2 o2 c2 hz2
      have hr2 := RowG.snoc (x := s) hr1 (by simp) hz2.1 hz2.2.1 hz2.2.2
      refine And.intro (fun k7 => absurd (of_decide_eq_true k7) (fun k => absurd (k.symm.trans h7) (by decide))) (fun k7 => ?_)
      refine And.intro (fun k7 => absurd (of_decide_eq_true k7) (fun k => absurd (k.symm.trans h7) (by decide))) (fun k7 => ?_)
      have hr3 : RowG stcl 19 zs2 o2 c2 (w.R ++ [s]) := hr2
      have hF := s_find (w.did s) { q with r := ⟨zs2, o2, c2⟩ } (hkD zs2 o2 c2 hr3) 1 (s.ar, s.an)
      have hW := s_refWinner (w.did s) { q with r := ⟨zs2, o2, c2⟩ } (hkD zs2 o2 c2 hr3) (s.ar, s.an)
      rw [show winR (w.did s) (s.ar, s.an) = _ from hwin] at hW
      simp only [hoR, RH.did, hlR] at hF hW
      refine VCall.mk [0, 1, 12, 3, 4, 5, 6] hF ⟨rfl, rfl, rfl⟩ ?_
      rintro _ _ ⟨rfl, rfl⟩
      refine VCall.mk [0, 1, 12, 3, 4, 5, 6] hW ⟨rfl, rfl, rfl⟩ ?_
      rintro _ _ ⟨rfl, rfl⟩
      refine And.intro (fun k8 => ?_) (fun k8 => ?_)
      rotate_left 1
      · have k8 : (findR w 1 (s.ar, s.an)).isSome = false := nT k8
        have hmay : mayR w s = false := by rw [mayR, k8]; rfl
        exact finNo _ zs2 o2 c2 _ _ _ _ _ he (.inr (.inr ⟨h7, hmay⟩)) hlR.symm hr3
      have k8 : (findR w 1 (s.ar, s.an)).isSome = true := nF k8
      refine And.intro (fun _ => ?_) (fun k => absurd k (by decide))
      refine VCall.mk [] (s_ref_Has s.seen s.ar s.an) ⟨rfl, rfl, rfl⟩ ?_
      rintro _ _ ⟨rfl, rfl⟩
      refine And.intro (fun k9 => ?_) (fun k9 => ?_)
      · have k9 : has s.seen s.ar s.an = false := nT k9
        have hmay : mayR w s = false := by rw [mayR, k8, hwin, k9]; rfl
        exact finNo _ zs2 o2 c2 _ _ _ _ _ he (.inr (.inr ⟨h7, hmay⟩)) hlR.symm hr3
      have k9 : has s.seen s.ar s.an = true := nF k9
      have hmay : mayR w s = true := by rw [mayR, k8, hwin, k9]; rfl
      have hB := s_refBids (w.did s) { q with r := ⟨zs2, o2, c2⟩ } (hkD zs2 o2 c2 hr3) (s.ar, s.an) s.seen
      simp only [hoR, RH.did, hlR] at hB
      refine VCall.mk [0, 1, 12, 3, 4, 5, 6] hB ⟨rfl, rfl, rfl⟩ ?_
      rintro _ _ ⟨bs, bo, bc, rfl, rfl, hrb⟩
      have hrb : RowG stcl 19 bs bo bc (bidsR w (s.ar, s.an) s.seen) := hrb
      have hBl : (bidsR w (s.ar, s.an) s.seen).length ≤ 1000 := Nat.le_trans (List.length_filter_le _ _) hk.ll
      have hBm : ∀ t, t ∈ bidsR w (s.ar, s.an) s.seen → t.user.size ≤ 100000000 := fun t ht => hz t (List.mem_filter.1 ht).1
      refine VLoop.nil T_rostrumref24_Step [14] [] ⟨rfl, rfl⟩ ?_
      refine VLoop.mk RBX (fun x => [(0, .ptr 0 0), (3, .ptr 8 0), (14, .sl 11 x.o x.D.length x.c), (15, .sl 10 bo (bidsR w (s.ar, s.an) s.seen).length bc), (16, iv x.i)]) (fun x => hoRY (0 + w.R.length + 1) w.us.length w.sp.length w.su.length w.cl.length w { q with r := ⟨zs2, o2, c2⟩ } q 9 3 4 5 6 ++ [.heap h, .cells (stcells s) T_rostrumref24_Step, .arr zs2 T_rostrumref24_Step, .arr bs T_rostrumref24_Step, .arr x.xs T_rostrumref24_Step])
        (fun x => x.i ≤ (bidsR w (s.ar, s.an) s.seen).length ∧ x.D = ((bidsR w (s.ar, s.an) s.seen).take x.i).filter (fun t => regF w (foldB t.user)) ∧ RowG stcl 19 x.xs x.o x.c x.D) (fun x => (bidsR w (s.ar, s.an) s.seen).length - x.i) ⟨[], 0, 0, [], 0⟩ [0, 1, 2, 3, 4, 5, 6, 7, 8, 12, 15, 16]
        ⟨⟨Nat.zero_le _, rfl, RowG.nilS⟩, rfl, rfl, rfl⟩ ?_
      rintro ⟨xs, o, c, D, i⟩ ⟨hi, hD, hr⟩ g
      simp only at hi hD hr
      refine And.intro (fun t1 => ?_) (fun t1 => ?_)
      · have t1 : (i : Int) < ((bidsR w (s.ar, s.an) s.seen).length : Nat) := of_decide_eq_true t1
        have hil : i < (bidsR w (s.ar, s.an) s.seen).length := Int.ofNat_lt.1 t1
        have hwi : IntKind.i64.wrap ((i : Int) + 1) = ((i + 1 : Nat) : Int) := wrapI hil hBl
        have hx := hrb.cut (fun _ => rfl) hil
        have hx12 := hrb.at (fun _ => rfl) hil (j := 12) (by decide)
        have hft := filterTake (p := fun t => regF w (foldB t.user)) hil
        have hni : (0 : Int) ≤ (i : Int) ∧ (i : Int) < ((bidsR w (s.ar, s.an) s.seen).length : Nat) ∧ bo + (bidsR w (s.ar, s.an) s.seen).length * 19 ≤ bs.length := ⟨Int.natCast_nonneg i, t1, RowG.room hrb⟩
        have hE := s_Registered h hc (w.did s) { q with r := ⟨zs2, o2, c2⟩ } (hkD zs2 o2 c2 hr3) _ (hBm _ (List.getElem_mem hil))
        simp only [hoR, RH.did, hlR] at hE
        refine And.intro hni (Exists.intro _ (And.intro (by rw [Int.toNat_natCast]; exact hx12) ?_))
        refine VCall.mk [0, 1, 9, 3, 4, 5, 6, 7] hE ⟨rfl, rfl, rfl⟩ ?_
        rintro _ _ ⟨rfl, rfl⟩
        refine And.intro (fun t2 => ?_) (fun t2 => ?_)
        · have t2 : regF w (foldB (bidsR w (s.ar, s.an) s.seen)[i].user) = true := t2
          have hDl : D.length ≤ 1000 := by rw [hD]; exact Nat.le_trans (List.length_filter_le _ _) (Nat.le_trans (List.length_take_le' _ _) hBl)
          refine And.intro hni (Exists.intro _ (And.intro (by rw [Int.toNat_natCast]; exact hx) ?_))
          refine And.intro ⟨⟨hr.1, hr.2.1, rfl⟩, ⟨rfl, rfl⟩, small168 hDl⟩ ?_
          intro xs' o' c' hz
          refine Exists.intro _ (And.intro hwi ?_)
          refine Exists.intro ⟨xs', o', c', D ++ [(bidsR w (s.ar, s.an) s.seen)[i]], i + 1⟩ (Exists.intro [0, 1, 2, 3, 4, 5, 6, 7, 8, 9, 10, 13] (And.intro ⟨⟨hil, by simp only; rw [hft, t2, hD]; rfl, RowG.snoc hr rfl hz.1 hz.2.1 hz.2.2⟩, subLt hil⟩ ⟨?_, rfl, rfl⟩))
          simp only [List.length_append, List.length_cons, List.length_nil]; rfl
        · have t2 : regF w (foldB (bidsR w (s.ar, s.an) s.seen)[i].user) = false := t2
          refine Exists.intro _ (And.intro hwi ?_)
          exact Exists.intro ⟨xs, o, c, D, i + 1⟩ (Exists.intro [0, 1, 2, 3, 4, 5, 6, 7, 8, 9, 10, 11] (And.intro ⟨⟨hil, by simp only; rw [hft, t2, hD]; simp, hr⟩, subLt hil⟩ ⟨rfl, rfl, rfl⟩))
      · have hil : i = (bidsR w (s.ar, s.an) s.seen).length := Nat.le_antisymm hi (Int.ofNat_le.1 (Int.not_lt.1 (of_decide_eq_false t1)))
        rw [hil, List.take_length] at hD
        have hD : D = liveR w s := hD
        subst hD
        have eP := whole1 ecl_len ecl_ok hk.e
        have eb1 := small56 (n := 0 + w.cl.length) (lt5 hn2)
        have eb2 := small56 (n := 0 + w.cl.length + 1) (lt5' hn2)
        have enil : RowG ecl 6 [] 0 0 [] := RowG.nilS
        have hLl : (liveR w s).length ≤ 1000 := Nat.le_trans (List.length_filter_le _ _) hBl
        refine VCall.mk [11] (s_refBest (liveR w s) xs o c hr hLl) ⟨rfl, rfl, rfl⟩ ?_
        rintro _ _ ⟨b, rfl, hb, rfl⟩
        refine And.intro (fun t2 => ?_) (fun t2 => ?_)
        · rcases hb with ⟨rfl, _⟩ | ⟨k, rfl, hkl, hk2, hbest⟩
          · exact absurd (of_decide_eq_true t2) (by decide)
          have hb : bestR (liveR w s) (liveR w s).length (k : Int) := .inr ⟨k, rfl, hkl, hk2, hbest⟩
          have hx := hr.cut (fun _ => rfl) hkl
          have hx1 := cut_sub hx 1 2 (by decide)
          have hx12 := hr.at (fun _ => rfl) hkl (j := 12) (by decide)
          have hx17 := hr.at (fun _ => rfl) hkl (j := 17) (by decide)
          have hni : (0 : Int) ≤ (k : Int) ∧ (k : Int) < ((liveR w s).length : Nat) ∧ o + (liveR w s).length * 19 ≤ xs.length := ⟨Int.natCast_nonneg k, Int.ofNat_lt.2 hkl, RowG.room hr⟩
          refine And.intro hni (Exists.intro _ (And.intro (by rw [Int.toNat_natCast]; exact hx1) ?_))
          refine And.intro hni (Exists.intro _ (And.intro (by rw [Int.toNat_natCast]; exact hx12) ?_))
          refine And.intro hni (Exists.intro _ (And.intro (by rw [Int.toNat_natCast]; exact hx17) ?_))
          refine And.intro (And.intro hni rfl) ?_
          refine And.intro (Exists.intro _ (And.intro (by rw [Int.toNat_natCast]; exact hx12) rfl)) ?_
          refine And.intro (And.intro hni rfl) ?_
          refine And.intro (Exists.intro _ (And.intro (by rw [Int.toNat_natCast]; exact hx17) rfl)) ?_
          refine And.intro (And.intro hni rfl) ?_
          refine And.intro (Exists.intro _ (And.intro (by rw [Int.toNat_natCast]; exact hx17) rfl)) ?_
          have hoc := outAt_k hkl
          have hxo : List.take (1 * 6) (List.drop 0 [Value.int .i64 s.ar, Value.int .i64 s.an, Value.int .i64 (liveR w s)[k].rep, Value.int .i64 (liveR w s)[k].n, Value.string (liveR w s)[k].user, Value.int .i64 (liveR w s)[k].amount]) = [((s.ar, s.an), outAt (liveR w s) (k : Int))].flatMap ecl := by rw [hoc]; rfl
          refine And.intro ?e ?f
          case e =>
            refine And.intro rfl (And.intro rfl (And.intro rfl ?_))
            refine And.intro ?e1 ?e2
            case e1 =>
              refine And.intro ⟨⟨Nat.zero_le _, by simp, rfl⟩, eP, eb1⟩ ?_
              intro zs3 o3 c3 hz3
              have hs1 := RowG.app enil rfl rfl hk.e.2.2 hz3.1 hz3.2.1 hz3.2.2
              refine And.intro rfl ?_
              refine And.intro ⟨⟨hz3.1, hz3.2.1, rfl⟩, ⟨rfl, rfl⟩, eb2⟩ ?_
              intro zs4 o4 c4 hz4
              have hs2 := RowG.app hs1 (by simp) rfl hxo hz4.1 hz4.2.1 hz4.2.2
              exact finOver _ _ zs2 zs4 o2 c2 o4 c4 _ _ _ _ _ _ _ _ hb rfl hr3 hs2 he hmay
            case e2 =>
              refine And.intro rfl (And.intro rfl ?_)
              refine And.intro ⟨⟨Nat.zero_le _, by simp, rfl⟩, eP, eb1⟩ ?_
              intro zs3 o3 c3 hz3
              have hs1 := RowG.app enil rfl rfl hk.e.2.2 hz3.1 hz3.2.1 hz3.2.2
              refine And.intro ⟨⟨hz3.1, hz3.2.1, rfl⟩, ⟨rfl, rfl⟩, eb2⟩ ?_
              intro zs4 o4 c4 hz4
              have hs2 := RowG.app hs1 (by simp) rfl hxo hz4.1 hz4.2.1 hz4.2.2
              exact finOver _ _ zs2 zs4 o2 c2 o4 c4 _ _ _ _ _ _ _ _ hb rfl hr3 hs2 he hmay
          case f =>
            refine And.intro rfl (And.intro rfl ?_)
            refine And.intro rfl (And.intro rfl ?_)
            refine And.intro ⟨⟨Nat.zero_le _, by simp, rfl⟩, eP, eb1⟩ ?_
            intro zs3 o3 c3 hz3
            have hs1 := RowG.app enil rfl rfl hk.e.2.2 hz3.1 hz3.2.1 hz3.2.2
            refine And.intro ⟨⟨hz3.1, hz3.2.1, rfl⟩, ⟨rfl, rfl⟩, eb2⟩ ?_
            intro zs4 o4 c4 hz4
            have hs2 := RowG.app hs1 (by simp) rfl hxo hz4.1 hz4.2.1 hz4.2.2
            exact finOver _ _ zs2 zs4 o2 c2 o4 c4 _ _ _ _ _ _ _ _ hb rfl hr3 hs2 he hmay
        · have hxo : List.take (1 * 6) (List.drop 0 [Value.int .i64 s.ar, Value.int .i64 s.an, Value.int .i64 0, Value.int .i64 0, Value.string es, Value.int .i64 0]) = [((s.ar, s.an), outAt (liveR w s) b)].flatMap ecl := by
            rw [outAt, show decide ((0 : Int) ≤ b) = false from t2]; rfl
          refine And.intro ?e ?f
          case e =>
            refine And.intro rfl (And.intro rfl (And.intro rfl ?_))
            refine And.intro ?e1 ?e2
            case e1 =>
              refine And.intro ⟨⟨Nat.zero_le _, by simp, rfl⟩, eP, eb1⟩ ?_
              intro zs3 o3 c3 hz3
              have hs1 := RowG.app enil rfl rfl hk.e.2.2 hz3.1 hz3.2.1 hz3.2.2
              refine And.intro rfl ?_
              refine And.intro ⟨⟨hz3.1, hz3.2.1, rfl⟩, ⟨rfl, rfl⟩, eb2⟩ ?_
              intro zs4 o4 c4 hz4
              have hs2 := RowG.app hs1 (by simp) rfl hxo hz4.1 hz4.2.1 hz4.2.2
              exact finOver _ _ zs2 zs4 o2 c2 o4 c4 _ _ _ _ _ _ _ _ hb rfl hr3 hs2 he hmay
            case e2 =>
              refine And.intro rfl (And.intro rfl ?_)
              refine And.intro ⟨⟨Nat.zero_le _, by simp, rfl⟩, eP, eb1⟩ ?_
              intro zs3 o3 c3 hz3
              have hs1 := RowG.app enil rfl rfl hk.e.2.2 hz3.1 hz3.2.1 hz3.2.2
              refine And.intro ⟨⟨hz3.1, hz3.2.1, rfl⟩, ⟨rfl, rfl⟩, eb2⟩ ?_
              intro zs4 o4 c4 hz4
              have hs2 := RowG.app hs1 (by simp) rfl hxo hz4.1 hz4.2.1 hz4.2.2
              exact finOver _ _ zs2 zs4 o2 c2 o4 c4 _ _ _ _ _ _ _ _ hb rfl hr3 hs2 he hmay
          case f =>
            refine And.intro rfl (And.intro rfl ?_)
            refine And.intro rfl (And.intro rfl ?_)
            refine And.intro ⟨⟨Nat.zero_le _, by simp, rfl⟩, eP, eb1⟩ ?_
            intro zs3 o3 c3 hz3
            have hs1 := RowG.app enil rfl rfl hk.e.2.2 hz3.1 hz3.2.1 hz3.2.2
            refine And.intro ⟨⟨hz3.1, hz3.2.1, rfl⟩, ⟨rfl, rfl⟩, eb2⟩ ?_
            intro zs4 o4 c4 hz4
            have hs2 := RowG.app hs1 (by simp) rfl hxo hz4.1 hz4.2.1 hz4.2.2
            exact finOver _ _ zs2 zs4 o2 c2 o4 c4 _ _ _ _ _ _ _ _ hb rfl hr3 hs2 he hmay
    case d =>
      refine And.intro rfl (And.intro rfl ?_)
      refine And.intro ⟨⟨Nat.zero_le _, by simp, rfl⟩, dP, hb1⟩ ?_
      intro zs1 o1 c1 hz1
      have hr1 := RowG.app nil0 rfl rfl hP hz1.1 hz1.2.1 hz1.2.2
      refine And.intro ⟨⟨hz1.1, hz1.2.1, rfl⟩, ⟨rfl, rfl⟩, hb2⟩ ?_
      intro zs2 o2 c2 hz2
      have hr2 := RowG.snoc (x := s) hr1 (by simp) hz2.1 hz2.2.1 hz2.2.2
      refine And.intro (fun k7 => absurd (of_decide_eq_true k7) (fun k => absurd (k.symm.trans h7) (by decide))) (fun k7 => ?_)
      refine And.intro (fun k7 => absurd (of_decide_eq_true k7) (fun k => absurd (k.symm.trans h7) (by decide))) (fun k7 => ?_)
      have hr3 : RowG stcl 19 zs2 o2 c2 (w.R ++ [s]) := hr2
      have hF := s_find (w.did s) { q with r := ⟨zs2, o2, c2⟩ } (hkD zs2 o2 c2 hr3) 1 (s.ar, s.an)
      have hW := s_refWinner (w.did s) { q with r := ⟨zs2, o2, c2⟩ } (hkD zs2 o2 c2 hr3) (s.ar, s.an)
      rw [show winR (w.did s) (s.ar, s.an) = _ from hwin] at hW
      simp only [hoR, RH.did, hlR] at hF hW
      refine VCall.mk [0, 1, 12, 3, 4, 5, 6] hF ⟨rfl, rfl, rfl⟩ ?_
      rintro _ _ ⟨rfl, rfl⟩
      refine VCall.mk [0, 1, 12, 3, 4, 5, 6] hW ⟨rfl, rfl, rfl⟩ ?_
      rintro _ _ ⟨rfl, rfl⟩
      refine And.intro (fun k8 => ?_) (fun k8 => ?_)
      rotate_left 1
      · have k8 : (findR w 1 (s.ar, s.an)).isSome = false := nT k8
        have hmay : mayR w s = false := by rw [mayR, k8]; rfl
        exact finNo _ zs2 o2 c2 _ _ _ _ _ he (.inr (.inr ⟨h7, hmay⟩)) hlR.symm hr3
      have k8 : (findR w 1 (s.ar, s.an)).isSome = true := nF k8
      refine And.intro (fun _ => ?_) (fun k => absurd k (by decide))
      refine VCall.mk [] (s_ref_Has s.seen s.ar s.an) ⟨rfl, rfl, rfl⟩ ?_
      rintro _ _ ⟨rfl, rfl⟩
      refine And.intro (fun k9 => ?_) (fun k9 => ?_)
      · have k9 : has s.seen s.ar s.an = false := nT k9
        have hmay : mayR w s = false := by rw [mayR, k8, hwin, k9]; rfl
        exact finNo _ zs2 o2 c2 _ _ _ _ _ he (.inr (.inr ⟨h7, hmay⟩)) hlR.symm hr3
      have k9 : has s.seen s.ar s.an = true := nF k9
      have hmay : mayR w s = true := by rw [mayR, k8, hwin, k9]; rfl
      have hB := s_refBids (w.did s) { q with r := ⟨zs2, o2, c2⟩ } (hkD zs2 o2 c2 hr3) (s.ar, s.an) s.seen
      simp only [hoR, RH.did, hlR] at hB
      refine VCall.mk [0, 1, 12, 3, 4, 5, 6] hB ⟨rfl, rfl, rfl⟩ ?_
      rintro _ _ ⟨bs, bo, bc, rfl, rfl, hrb⟩
      have hrb : RowG stcl 19 bs bo bc (bidsR w (s.ar, s.an) s.seen) := hrb
      have hBl : (bidsR w (s.ar, s.an) s.seen).length ≤ 1000 := Nat.le_trans (List.length_filter_le _ _) hk.ll
      have hBm : ∀ t, t ∈ bidsR w (s.ar, s.an) s.seen → t.user.size ≤ 100000000 := fun t ht => hz t (List.mem_filter.1 ht).1
      refine VLoop.nil T_rostrumref24_Step [14] [] ⟨rfl, rfl⟩ ?_
      refine VLoop.mk RBX (fun x => [(0, .ptr 0 0), (3, .ptr 8 0), (14, .sl 11 x.o x.D.length x.c), (15, .sl 10 bo (bidsR w (s.ar, s.an) s.seen).length bc), (16, iv x.i)]) (fun x => hoRY (0 + w.R.length + 1) w.us.length w.sp.length w.su.length w.cl.length w { q with r := ⟨zs2, o2, c2⟩ } q 9 3 4 5 6 ++ [.heap h, .cells (stcells s) T_rostrumref24_Step, .arr zs2 T_rostrumref24_Step, .arr bs T_rostrumref24_Step, .arr x.xs T_rostrumref24_Step])
        (fun x => x.i ≤ (bidsR w (s.ar, s.an) s.seen).length ∧ x.D = ((bidsR w (s.ar, s.an) s.seen).take x.i).filter (fun t => regF w (foldB t.user)) ∧ RowG stcl 19 x.xs x.o x.c x.D) (fun x => (bidsR w (s.ar, s.an) s.seen).length - x.i) ⟨[], 0, 0, [], 0⟩ [0, 1, 2, 3, 4, 5, 6, 7, 8, 12, 15, 16]
        ⟨⟨Nat.zero_le _, rfl, RowG.nilS⟩, rfl, rfl, rfl⟩ ?_
      rintro ⟨xs, o, c, D, i⟩ ⟨hi, hD, hr⟩ g
      simp only at hi hD hr
      refine And.intro (fun t1 => ?_) (fun t1 => ?_)
      · have t1 : (i : Int) < ((bidsR w (s.ar, s.an) s.seen).length : Nat) := of_decide_eq_true t1
        have hil : i < (bidsR w (s.ar, s.an) s.seen).length := Int.ofNat_lt.1 t1
        have hwi : IntKind.i64.wrap ((i : Int) + 1) = ((i + 1 : Nat) : Int) := wrapI hil hBl
        have hx := hrb.cut (fun _ => rfl) hil
        have hx12 := hrb.at (fun _ => rfl) hil (j := 12) (by decide)
        have hft := filterTake (p := fun t => regF w (foldB t.user)) hil
        have hni : (0 : Int) ≤ (i : Int) ∧ (i : Int) < ((bidsR w (s.ar, s.an) s.seen).length : Nat) ∧ bo + (bidsR w (s.ar, s.an) s.seen).length * 19 ≤ bs.length := ⟨Int.natCast_nonneg i, t1, RowG.room hrb⟩
        have hE := s_Registered h hc (w.did s) { q with r := ⟨zs2, o2, c2⟩ } (hkD zs2 o2 c2 hr3) _ (hBm _ (List.getElem_mem hil))
        simp only [hoR, RH.did, hlR] at hE
        refine And.intro hni (Exists.intro _ (And.intro (by rw [Int.toNat_natCast]; exact hx12) ?_))
        refine VCall.mk [0, 1, 9, 3, 4, 5, 6, 7] hE ⟨rfl, rfl, rfl⟩ ?_
        rintro _ _ ⟨rfl, rfl⟩
        refine And.intro (fun t2 => ?_) (fun t2 => ?_)
        · have t2 : regF w (foldB (bidsR w (s.ar, s.an) s.seen)[i].user) = true := t2
          have hDl : D.length ≤ 1000 := by rw [hD]; exact Nat.le_trans (List.length_filter_le _ _) (Nat.le_trans (List.length_take_le' _ _) hBl)
          refine And.intro hni (Exists.intro _ (And.intro (by rw [Int.toNat_natCast]; exact hx) ?_))
          refine And.intro ⟨⟨hr.1, hr.2.1, rfl⟩, ⟨rfl, rfl⟩, small168 hDl⟩ ?_
          intro xs' o' c' hz
          refine Exists.intro _ (And.intro hwi ?_)
          refine Exists.intro ⟨xs', o', c', D ++ [(bidsR w (s.ar, s.an) s.seen)[i]], i + 1⟩ (Exists.intro [0, 1, 2, 3, 4, 5, 6, 7, 8, 9, 10, 13] (And.intro ⟨⟨hil, by simp only; rw [hft, t2, hD]; rfl, RowG.snoc hr rfl hz.1 hz.2.1 hz.2.2⟩, subLt hil⟩ ⟨?_, rfl, rfl⟩))
          simp only [List.length_append, List.length_cons, List.length_nil]; rfl
        · have t2 : regF w (foldB (bidsR w (s.ar, s.an) s.seen)[i].user) = false := t2
          refine Exists.intro _ (And.intro hwi ?_)
          exact Exists.intro ⟨xs, o, c, D, i + 1⟩ (Exists.intro [0, 1, 2, 3, 4, 5, 6, 7, 8, 9, 10, 11] (And.intro ⟨⟨hil, by simp only; rw [hft, t2, hD]; simp, hr⟩, subLt hil⟩ ⟨rfl, rfl, rfl⟩))
      · have hil : i = (bidsR w (s.ar, s.an) s.seen).length := Nat.le_antisymm hi (Int.ofNat_le.1 (Int.not_lt.1 (of_decide_eq_false t1)))
        rw [hil, List.take_length] at hD
        have hD : D = liveR w s := hD
        subst hD
        have eP := whole1 ecl_len ecl_ok hk.e
        have eb1 := small56 (n := 0 + w.cl.length) (lt5 hn2)
        have eb2 := small56 (n := 0 + w.cl.length + 1) (lt5' hn2)
        have enil : RowG ecl 6 [] 0 0 [] := RowG.nilS
        have hLl : (liveR w s).length ≤ 1000 := Nat.le_trans (List.length_filter_le _ _) hBl
        refine VCall.mk [11] (s_refBest (liveR w s) xs o c hr hLl) ⟨rfl, rfl, rfl⟩ ?_
        rintro _ _ ⟨b, rfl, hb, rfl⟩
        refine And.intro (fun t2 => ?_) (fun t2 => ?_)
        · rcases hb with ⟨rfl, _⟩ | ⟨k, rfl, hkl, hk2, hbest⟩
          · exact absurd (of_decide_eq_true t2) (by decide)
          have hb : bestR (liveR w s) (liveR w s).length (k : Int) := .inr ⟨k, rfl, hkl, hk2, hbest⟩
          have hx := hr.cut (fun _ => rfl) hkl
          have hx1 := cut_sub hx 1 2 (by decide)
          have hx12 := hr.at (fun _ => rfl) hkl (j := 12) (by decide)
          have hx17 := hr.at (fun _ => rfl) hkl (j := 17) (by decide)
          have hni : (0 : Int) ≤ (k : Int) ∧ (k : Int) < ((liveR w s).length : Nat) ∧ o + (liveR w s).length * 19 ≤ xs.length := ⟨Int.natCast_nonneg k, Int.ofNat_lt.2 hkl, RowG.room hr⟩
          refine And.intro hni (Exists.intro _ (And.intro (by rw [Int.toNat_natCast]; exact hx1) ?_))
          refine And.intro hni (Exists.intro _ (And.intro (by rw [Int.toNat_natCast]; exact hx12) ?_))
          refine And.intro hni (Exists.intro _ (And.intro (by rw [Int.toNat_natCast]; exact hx17) ?_))
          refine And.intro (And.intro hni rfl) ?_
          refine And.intro (Exists.intro _ (And.intro (by rw [Int.toNat_natCast]; exact hx12) rfl)) ?_
          refine And.intro (And.intro hni rfl) ?_
          refine And.intro (Exists.intro _ (And.intro (by rw [Int.toNat_natCast]; exact hx17) rfl)) ?_
          refine And.intro (And.intro hni rfl) ?_
          refine And.intro (Exists.intro _ (And.intro (by rw [Int.toNat_natCast]; exact hx17) rfl)) ?_
          have hoc := outAt_k hkl
          have hxo : List.take (1 * 6) (List.drop 0 [Value.int .i64 s.ar, Value.int .i64 s.an, Value.int .i64 (liveR w s)[k].rep, Value.int .i64 (liveR w s)[k].n, Value.string (liveR w s)[k].user, Value.int .i64 (liveR w s)[k].amount]) = [((s.ar, s.an), outAt (liveR w s) (k : Int))].flatMap ecl := by rw [hoc]; rfl
          refine And.intro ?e ?f
          case e =>
            refine And.intro rfl (And.intro rfl (And.intro rfl ?_))
            refine And.intro ?e1 ?e2
            case e1 =>
              refine And.intro ⟨⟨Nat.zero_le _, by simp, rfl⟩, eP, eb1⟩ ?_
              intro zs3 o3 c3 hz3
              have hs1 := RowG.app enil rfl rfl hk.e.2.2 hz3.1 hz3.2.1 hz3.2.2
              refine And.intro rfl ?_
              refine And.intro ⟨⟨hz3.1, hz3.2.1, rfl⟩, ⟨rfl, rfl⟩, eb2⟩ ?_
              intro zs4 o4 c4 hz4
              have hs2 := RowG.app hs1 (by simp) rfl hxo hz4.1 hz4.2.1 hz4.2.2
              exact finOver _ _ zs2 zs4 o2 c2 o4 c4 _ _ _ _ _ _ _ _ hb rfl hr3 hs2 he hmay
            case e2 =>
              refine And.intro rfl (And.intro rfl ?_)
              refine And.intro ⟨⟨Nat.zero_le _, by simp, rfl⟩, eP, eb1⟩ ?_
              intro zs3 o3 c3 hz3
              have hs1 := RowG.app enil rfl rfl hk.e.2.2 hz3.1 hz3.2.1 hz3.2.2
              refine And.intro ⟨⟨hz3.1, hz3.2.1, rfl⟩, ⟨rfl, rfl⟩, eb2⟩ ?_
              intro zs4 o4 c4 hz4
              have hs2 := RowG.app hs1 (by simp) rfl hxo hz4.1 hz4.2.1 hz4.2.2
              exact finOver _ _ zs2 zs4 o2 c2 o4 c4 _ _ _ _ _ _ _ _ hb rfl hr3 hs2 he hmay
          case f =>
            refine And.intro rfl (And.intro rfl ?_)
            refine And.intro rfl (And.intro rfl ?_)
            refine And.intro ⟨⟨Nat.zero_le _, by simp, rfl⟩, eP, eb1⟩ ?_
            intro zs3 o3 c3 hz3
            have hs1 := RowG.app enil rfl rfl hk.e.2.2 hz3.1 hz3.2.1 hz3.2.2
            refine And.intro ⟨⟨hz3.1, hz3.2.1, rfl⟩, ⟨rfl, rfl⟩, eb2⟩ ?_
            intro zs4 o4 c4 hz4
            have hs2 := RowG.app hs1 (by simp) rfl hxo hz4.1 hz4.2.1 hz4.2.2
            exact finOver _ _ zs2 zs4 o2 c2 o4 c4 _ _ _ _ _ _ _ _ hb rfl hr3 hs2 he hmay
        · have hxo : List.take (1 * 6) (List.drop 0 [Value.int .i64 s.ar, Value.int .i64 s.an, Value.int .i64 0, Value.int .i64 0, Value.string es, Value.int .i64 0]) = [((s.ar, s.an), outAt (liveR w s) b)].flatMap ecl := by
            rw [outAt, show decide ((0 : Int) ≤ b) = false from t2]; rfl
          refine And.intro ?e ?f
          case e =>
            refine And.intro rfl (And.intro rfl (And.intro rfl ?_))
            refine And.intro ?e1 ?e2
            case e1 =>
              refine And.intro ⟨⟨Nat.zero_le _, by simp, rfl⟩, eP, eb1⟩ ?_
              intro zs3 o3 c3 hz3
              have hs1 := RowG.app enil rfl rfl hk.e.2.2 hz3.1 hz3.2.1 hz3.2.2
              refine And.intro rfl ?_
              refine And.intro ⟨⟨hz3.1, hz3.2.1, rfl⟩, ⟨rfl, rfl⟩, eb2⟩ ?_
              intro zs4 o4 c4 hz4
              have hs2 := RowG.app hs1 (by simp) rfl hxo hz4.1 hz4.2.1 hz4.2.2
              exact finOver _ _ zs2 zs4 o2 c2 o4 c4 _ _ _ _ _ _ _ _ hb rfl hr3 hs2 he hmay
            case e2 =>
              refine And.intro rfl (And.intro rfl ?_)
              refine And.intro ⟨⟨Nat.zero_le _, by simp, rfl⟩, eP, eb1⟩ ?_
              intro zs3 o3 c3 hz3
              have hs1 := RowG.app enil rfl rfl hk.e.2.2 hz3.1 hz3.2.1 hz3.2.2
              refine And.intro ⟨⟨hz3.1, hz3.2.1, rfl⟩, ⟨rfl, rfl⟩, eb2⟩ ?_
              intro zs4 o4 c4 hz4
              have hs2 := RowG.app hs1 (by simp) rfl hxo hz4.1 hz4.2.1 hz4.2.2
              exact finOver _ _ zs2 zs4 o2 c2 o4 c4 _ _ _ _ _ _ _ _ hb rfl hr3 hs2 he hmay
          case f =>
            refine And.intro rfl (And.intro rfl ?_)
            refine And.intro rfl (And.intro rfl ?_)
            refine And.intro ⟨⟨Nat.zero_le _, by simp, rfl⟩, eP, eb1⟩ ?_
            intro zs3 o3 c3 hz3
            have hs1 := RowG.app enil rfl rfl hk.e.2.2 hz3.1 hz3.2.1 hz3.2.2
            refine And.intro ⟨⟨hz3.1, hz3.2.1, rfl⟩, ⟨rfl, rfl⟩, eb2⟩ ?_
            intro zs4 o4 c4 hz4
            have hs2 := RowG.app hs1 (by simp) rfl hxo hz4.1 hz4.2.1 hz4.2.2
            exact finOver _ _ zs2 zs4 o2 c2 o4 c4 _ _ _ _ _ _ _ _ hb rfl hr3 hs2 he hmay
  case b =>
    refine And.intro rfl (And.intro rfl ?_)
    refine And.intro rfl (And.intro rfl ?_)
    refine And.intro ⟨⟨Nat.zero_le _, by simp, rfl⟩, dP, hb1⟩ ?_
    intro zs1 o1 c1 hz1
    have hr1 := RowG.app nil0 rfl rfl hP hz1.1 hz1.2.1 hz1.2.2
    refine And.intro ⟨⟨hz1.1, hz1.2.1, rfl⟩, ⟨rfl, rfl⟩, hb2⟩ ?_
    intro zs2 o2 c2 hz2
    have hr2 := RowG.snoc (x := s) hr1 (by simp) hz2.1 hz2.2.1 hz2.2.2
    refine And.intro (fun k7 => absurd (of_decide_eq_true k7) (fun k => absurd (k.symm.trans h7) (by decide))) (fun k7 => ?_)
    refine And.intro (fun k7 => absurd (of_decide_eq_true k7) (fun k => absurd (k.symm.trans h7) (by decide))) (fun k7 => ?_)
    have hr3 : RowG stcl 19 zs2 o2 c2 (w.R ++ [s]) := hr2
    have hF := s_find (w.did s) { q with r := ⟨zs2, o2, c2⟩ } (hkD zs2 o2 c2 hr3) 1 (s.ar, s.an)
    have hW := s_refWinner (w.did s) { q with r := ⟨zs2, o2, c2⟩ } (hkD zs2 o2 c2 hr3) (s.ar, s.an)
    rw [show winR (w.did s) (s.ar, s.an) = _ from hwin] at hW
    simp only [hoR, RH.did, hlR] at hF hW
    refine VCall.mk [0, 1, 12, 3, 4, 5, 6] hF ⟨rfl, rfl, rfl⟩ ?_
    rintro _ _ ⟨rfl, rfl⟩
    refine VCall.mk [0, 1, 12, 3, 4, 5, 6] hW ⟨rfl, rfl, rfl⟩ ?_
    rintro _ _ ⟨rfl, rfl⟩
    refine And.intro (fun k8 => ?_) (fun k8 => ?_)
    rotate_left 1
    · have k8 : (findR w 1 (s.ar, s.an)).isSome = false := nT k8
      have hmay : mayR w s = false := by rw [mayR, k8]; rfl
      exact finNo _ zs2 o2 c2 _ _ _ _ _ he (.inr (.inr ⟨h7, hmay⟩)) hlR.symm hr3
    have k8 : (findR w 1 (s.ar, s.an)).isSome = true := nF k8
    refine And.intro (fun _ => ?_) (fun k => absurd k (by decide))
    refine VCall.mk [] (s_ref_Has s.seen s.ar s.an) ⟨rfl, rfl, rfl⟩ ?_
    rintro _ _ ⟨rfl, rfl⟩
    refine And.intro (fun k9 => ?_) (fun k9 => ?_)
    · have k9 : has s.seen s.ar s.an = false := nT k9
      have hmay : mayR w s = false := by rw [mayR, k8, hwin, k9]; rfl
      exact finNo _ zs2 o2 c2 _ _ _ _ _ he (.inr (.inr ⟨h7, hmay⟩)) hlR.symm hr3
    have k9 : has s.seen s.ar s.an = true := nF k9
    have hmay : mayR w s = true := by rw [mayR, k8, hwin, k9]; rfl
    have hB := s_refBids (w.did s) { q with r := ⟨zs2, o2, c2⟩ } (hkD zs2 o2 c2 hr3) (s.ar, s.an) s.seen
    simp only [hoR, RH.did, hlR] at hB
    refine VCall.mk [0, 1, 12, 3, 4, 5, 6] hB ⟨rfl, rfl, rfl⟩ ?_
    rintro _ _ ⟨bs, bo, bc, rfl, rfl, hrb⟩
    have hrb : RowG stcl 19 bs bo bc (bidsR w (s.ar, s.an) s.seen) := hrb
    have hBl : (bidsR w (s.ar, s.an) s.seen).length ≤ 1000 := Nat.le_trans (List.length_filter_le _ _) hk.ll
    have hBm : ∀ t, t ∈ bidsR w (s.ar, s.an) s.seen → t.user.size ≤ 100000000 := fun t ht => hz t (List.mem_filter.1 ht).1
    refine VLoop.nil T_rostrumref24_Step [14] [] ⟨rfl, rfl⟩ ?_
    refine VLoop.mk RBX (fun x => [(0, .ptr 0 0), (3, .ptr 8 0), (14, .sl 11 x.o x.D.length x.c), (15, .sl 10 bo (bidsR w (s.ar, s.an) s.seen).length bc), (16, iv x.i)]) (fun x => hoRY (0 + w.R.length + 1) w.us.length w.sp.length w.su.length w.cl.length w { q with r := ⟨zs2, o2, c2⟩ } q 9 3 4 5 6 ++ [.heap h, .cells (stcells s) T_rostrumref24_Step, .arr zs2 T_rostrumref24_Step, .arr bs T_rostrumref24_Step, .arr x.xs T_rostrumref24_Step])
      (fun x => x.i ≤ (bidsR w (s.ar, s.an) s.seen).length ∧ x.D = ((bidsR w (s.ar, s.an) s.seen).take x.i).filter (fun t => regF w (foldB t.user)) ∧ RowG stcl 19 x.xs x.o x.c x.D) (fun x => (bidsR w (s.ar, s.an) s.seen).length - x.i) ⟨[], 0, 0, [], 0⟩ [0, 1, 2, 3, 4, 5, 6, 7, 8, 12, 15, 16]
      ⟨⟨Nat.zero_le _, rfl, RowG.nilS⟩, rfl, rfl, rfl⟩ ?_
    rintro ⟨xs, o, c, D, i⟩ ⟨hi, hD, hr⟩ g
    simp only at hi hD hr
    refine And.intro (fun t1 => ?_) (fun t1 => ?_)
    · have t1 : (i : Int) < ((bidsR w (s.ar, s.an) s.seen).length : Nat) := of_decide_eq_true t1
      have hil : i < (bidsR w (s.ar, s.an) s.seen).length := Int.ofNat_lt.1 t1
      have hwi : IntKind.i64.wrap ((i : Int) + 1) = ((i + 1 : Nat) : Int) := wrapI hil hBl
      have hx := hrb.cut (fun _ => rfl) hil
      have hx12 := hrb.at (fun _ => rfl) hil (j := 12) (by decide)
      have hft := filterTake (p := fun t => regF w (foldB t.user)) hil
      have hni : (0 : Int) ≤ (i : Int) ∧ (i : Int) < ((bidsR w (s.ar, s.an) s.seen).length : Nat) ∧ bo + (bidsR w (s.ar, s.an) s.seen).length * 19 ≤ bs.length := ⟨Int.natCast_nonneg i, t1, RowG.room hrb⟩
      have hE := s_Registered h hc (w.did s) { q with r := ⟨zs2, o2, c2⟩ } (hkD zs2 o2 c2 hr3) _ (hBm _ (List.getElem_mem hil))
      simp only [hoR, RH.did, hlR] at hE
      refine And.intro hni (Exists.intro _ (And.intro (by rw [Int.toNat_natCast]; exact hx12) ?_))
      refine VCall.mk [0, 1, 9, 3, 4, 5, 6, 7] hE ⟨rfl, rfl, rfl⟩ ?_
      rintro _ _ ⟨rfl, rfl⟩
      refine And.intro (fun t2 => ?_) (fun t2 => ?_)
      · have t2 : regF w (foldB (bidsR w (s.ar, s.an) s.seen)[i].user) = true := t2
        have hDl : D.length ≤ 1000 := by rw [hD]; exact Nat.le_trans (List.length_filter_le _ _) (Nat.le_trans (List.length_take_le' _ _) hBl)
        refine And.intro hni (Exists.intro _ (And.intro (by rw [Int.toNat_natCast]; exact hx) ?_))
        refine And.intro ⟨⟨hr.1, hr.2.1, rfl⟩, ⟨rfl, rfl⟩, small168 hDl⟩ ?_
        intro xs' o' c' hz
        refine Exists.intro _ (And.intro hwi ?_)
        refine Exists.intro ⟨xs', o', c', D ++ [(bidsR w (s.ar, s.an) s.seen)[i]], i + 1⟩ (Exists.intro [0, 1, 2, 3, 4, 5, 6, 7, 8, 9, 10, 13] (And.intro ⟨⟨hil, by simp only; rw [hft, t2, hD]; rfl, RowG.snoc hr rfl hz.1 hz.2.1 hz.2.2⟩, subLt hil⟩ ⟨?_, rfl, rfl⟩))
        simp only [List.length_append, List.length_cons, List.length_nil]; rfl
      · have t2 : regF w (foldB (bidsR w (s.ar, s.an) s.seen)[i].user) = false := t2
        refine Exists.intro _ (And.intro hwi ?_)
        exact Exists.intro ⟨xs, o, c, D, i + 1⟩ (Exists.intro [0, 1, 2, 3, 4, 5, 6, 7, 8, 9, 10, 11] (And.intro ⟨⟨hil, by simp only; rw [hft, t2, hD]; simp, hr⟩, subLt hil⟩ ⟨rfl, rfl, rfl⟩))
    · have hil : i = (bidsR w (s.ar, s.an) s.seen).length := Nat.le_antisymm hi (Int.ofNat_le.1 (Int.not_lt.1 (of_decide_eq_false t1)))
      rw [hil, List.take_length] at hD
      have hD : D = liveR w s := hD
      subst hD
      have eP := whole1 ecl_len ecl_ok hk.e
      have eb1 := small56 (n := 0 + w.cl.length) (lt5 hn2)
      have eb2 := small56 (n := 0 + w.cl.length + 1) (lt5' hn2)
      have enil : RowG ecl 6 [] 0 0 [] := RowG.nilS
      have hLl : (liveR w s).length ≤ 1000 := Nat.le_trans (List.length_filter_le _ _) hBl
      refine VCall.mk [11] (s_refBest (liveR w s) xs o c hr hLl) ⟨rfl, rfl, rfl⟩ ?_
      rintro _ _ ⟨b, rfl, hb, rfl⟩
      refine And.intro (fun t2 => ?_) (fun t2 => ?_)
      · rcases hb with ⟨rfl, _⟩ | ⟨k, rfl, hkl, hk2, hbest⟩
        · exact absurd (of_decide_eq_true t2) (by decide)
        have hb : bestR (liveR w s) (liveR w s).length (k : Int) := .inr ⟨k, rfl, hkl, hk2, hbest⟩
        have hx := hr.cut (fun _ => rfl) hkl
        have hx1 := cut_sub hx 1 2 (by decide)
        have hx12 := hr.at (fun _ => rfl) hkl (j := 12) (by decide)
        have hx17 := hr.at (fun _ => rfl) hkl (j := 17) (by decide)
        have hni : (0 : Int) ≤ (k : Int) ∧ (k : Int) < ((liveR w s).length : Nat) ∧ o + (liveR w s).length * 19 ≤ xs.length := ⟨Int.natCast_nonneg k, Int.ofNat_lt.2 hkl, RowG.room hr⟩
        refine And.intro hni (Exists.intro _ (And.intro (by rw [Int.toNat_natCast]; exact hx1) ?_))
        refine And.intro hni (Exists.intro _ (And.intro (by rw [Int.toNat_natCast]; exact hx12) ?_))
        refine And.intro hni (Exists.intro _ (And.intro (by rw [Int.toNat_natCast]; exact hx17) ?_))
        refine And.intro (And.intro hni rfl) ?_
        refine And.intro (Exists.intro _ (And.intro (by rw [Int.toNat_natCast]; exact hx12) rfl)) ?_
        refine And.intro (And.intro hni rfl) ?_
        refine And.intro (Exists.intro _ (And.intro (by rw [Int.toNat_natCast]; exact hx17) rfl)) ?_
        refine And.intro (And.intro hni rfl) ?_
        refine And.intro (Exists.intro _ (And.intro (by rw [Int.toNat_natCast]; exact hx17) rfl)) ?_
        have hoc := outAt_k hkl
        have hxo : List.take (1 * 6) (List.drop 0 [Value.int .i64 s.ar, Value.int .i64 s.an, Value.int .i64 (liveR w s)[k].rep, Value.int .i64 (liveR w s)[k].n, Value.string (liveR w s)[k].user, Value.int .i64 (liveR w s)[k].amount]) = [((s.ar, s.an), outAt (liveR w s) (k : Int))].flatMap ecl := by rw [hoc]; rfl
        refine And.intro ?e ?f
        case e =>
          refine And.intro rfl (And.intro rfl (And.intro rfl ?_))
          refine And.intro ?e1 ?e2
          case e1 =>
            refine And.intro ⟨⟨Nat.zero_le _, by simp, rfl⟩, eP, eb1⟩ ?_
            intro zs3 o3 c3 hz3
            have hs1 := RowG.app enil rfl rfl hk.e.2.2 hz3.1 hz3.2.1 hz3.2.2
            refine And.intro rfl ?_
            refine And.intro ⟨⟨hz3.1, hz3.2.1, rfl⟩, ⟨rfl, rfl⟩, eb2⟩ ?_
            intro zs4 o4 c4 hz4
            have hs2 := RowG.app hs1 (by simp) rfl hxo hz4.1 hz4.2.1 hz4.2.2
            exact finOver _ _ zs2 zs4 o2 c2 o4 c4 _ _ _ _ _ _ _ _ hb rfl hr3 hs2 he hmay
          case e2 =>
            refine And.intro rfl (And.intro rfl ?_)
            refine And.intro ⟨⟨Nat.zero_le _, by simp, rfl⟩, eP, eb1⟩ ?_
            intro zs3 o3 c3 hz3
            have hs1 := RowG.app enil rfl rfl hk.e.2.2 hz3.1 hz3.2.1 hz3.2.2
            refine And.intro ⟨⟨hz3.1, hz3.2.1, rfl⟩, ⟨rfl, rfl⟩, eb2⟩ ?_
            intro zs4 o4 c4 hz4
            have hs2 := RowG.app hs1 (by simp) rfl hxo hz4.1 hz4.2.1 hz4.2.2
            exact finOver _ _ zs2 zs4 o2 c2 o4 c4 _ _ _ _ _ _ _ _ hb rfl hr3 hs2 he hmay
        case f =>
          refine And.intro rfl (And.intro rfl ?_)
          refine And.intro rfl (And.intro rfl ?_)
          refine And.intro ⟨⟨Nat.zero_le _, by simp, rfl⟩, eP, eb1⟩ ?_
          intro zs3 o3 c3 hz3
          have hs1 := RowG.app enil rfl rfl hk.e.2.2 hz3.1 hz3.2.1 hz3.2.2
          refine And.intro ⟨⟨hz3.1, hz3.2.1, rfl⟩, ⟨rfl, rfl⟩, eb2⟩ ?_
          intro zs4 o4 c4 hz4
          have hs2 := RowG.app hs1 (by simp) rfl hxo hz4.1 hz4.2.1 hz4.2.2
          exact finOver _ _ zs2 zs4 o2 c2 o4 c4 _ _ _ _ _ _ _ _ hb rfl hr3 hs2 he hmay
      · have hxo : List.take (1 * 6) (List.drop 0 [Value.int .i64 s.ar, Value.int .i64 s.an, Value.int .i64 0, Value.int .i64 0, Value.string es, Value.int .i64 0]) = [((s.ar, s.an), outAt (liveR w s) b)].flatMap ecl := by
          rw [outAt, show decide ((0 : Int) ≤ b) = false from t2]; rfl
        refine And.intro ?e ?f
        case e =>
          refine And.intro rfl (And.intro rfl (And.intro rfl ?_))
          refine And.intro ?e1 ?e2
          case e1 =>
            refine And.intro ⟨⟨Nat.zero_le _, by simp, rfl⟩, eP, eb1⟩ ?_
            intro zs3 o3 c3 hz3
            have hs1 := RowG.app enil rfl rfl hk.e.2.2 hz3.1 hz3.2.1 hz3.2.2
            refine And.intro rfl ?_
            refine And.intro ⟨⟨hz3.1, hz3.2.1, rfl⟩, ⟨rfl, rfl⟩, eb2⟩ ?_
            intro zs4 o4 c4 hz4
            have hs2 := RowG.app hs1 (by simp) rfl hxo hz4.1 hz4.2.1 hz4.2.2
            exact finOver _ _ zs2 zs4 o2 c2 o4 c4 _ _ _ _ _ _ _ _ hb rfl hr3 hs2 he hmay
          case e2 =>
            refine And.intro rfl (And.intro rfl ?_)
            refine And.intro ⟨⟨Nat.zero_le _, by simp, rfl⟩, eP, eb1⟩ ?_
            intro zs3 o3 c3 hz3
            have hs1 := RowG.app enil rfl rfl hk.e.2.2 hz3.1 hz3.2.1 hz3.2.2
            refine And.intro ⟨⟨hz3.1, hz3.2.1, rfl⟩, ⟨rfl, rfl⟩, eb2⟩ ?_
            intro zs4 o4 c4 hz4
            have hs2 := RowG.app hs1 (by simp) rfl hxo hz4.1 hz4.2.1 hz4.2.2
            exact finOver _ _ zs2 zs4 o2 c2 o4 c4 _ _ _ _ _ _ _ _ hb rfl hr3 hs2 he hmay
        case f =>
          refine And.intro rfl (And.intro rfl ?_)
          refine And.intro rfl (And.intro rfl ?_)
          refine And.intro ⟨⟨Nat.zero_le _, by simp, rfl⟩, eP, eb1⟩ ?_
          intro zs3 o3 c3 hz3
          have hs1 := RowG.app enil rfl rfl hk.e.2.2 hz3.1 hz3.2.1 hz3.2.2
          refine And.intro ⟨⟨hz3.1, hz3.2.1, rfl⟩, ⟨rfl, rfl⟩, eb2⟩ ?_
          intro zs4 o4 c4 hz4
          have hs2 := RowG.app hs1 (by simp) rfl hxo hz4.1 hz4.2.1 hz4.2.2
          exact finOver _ _ zs2 zs4 o2 c2 o4 c4 _ _ _ _ _ _ _ _ hb rfl hr3 hs2 he hmay
structure RHB (w : RH) : Prop where
  su : ∀ n, n ∈ w.su → 0 ≤ n ∧ n ≤ 1000000000
  lz : ∀ t, t ∈ w.L → t.user.size ≤ 100000000
theorem s_refDo (h : Nat → Option Obj) (hu : Uni h) (hc : CaseH h) (w : RH) (q : RQ) (hk : RK w q) (hb : RHB w) (hn : w.R.length < 1000) (hn3 : w.us.length < 1000) (hn4 : w.sp.length < 1000) (hn6 : w.cl.length < 1000) (s : ST) (h1 : s.name.size ≤ 1000) (h2 : s.user.size ≤ 1000) :
    Ctr Tryz.prog F_rostrumref24_House_Do [.ptr 0 0, .agg (stcells s)] (hoR w q ++ [.heap h]) (RDid h w q s) := by
  by_cases h5 : s.kind = 5
  · exact s_refDo5 h hu hc w q hk hn hn3 s h1 h2 h5
  by_cases h6 : s.kind = 6
  · exact s_refDo6 h hu hc w q hk hb.su hn hn4 s h1 h2 h6
  by_cases h7 : s.kind = 7
  · cases hw : winR w (s.ar, s.an) with
    | some o => exact s_refDo7a h hu hc w q hk hn s h1 h2 h7 o hw
    | none => exact s_refDo7b h hu hc w q hk hn hn6 s h1 h2 hb.lz h7 hw
  have hbad : goodT s = true → s.kind < 5 := fun hg => by
    have := good_kind hg
    omega
  have fin : ∀ (l : List SO), refDE w s = 1 → VRet 8 (.tup [bv false, iv 1]) (hoR w q ++ .heap h :: l) (RDid h w q s) := by
    intro l hb
    have hd : RDid h w q s (.tup [bv false, iv (refDE w s)]) (hoR w q ++ [.heap h]) := .bad (by rw [hb]; decide)
    rw [hb] at hd
    exact VRet.mk [0, 1, 2, 3, 4, 5, 6, 7] (.tup [bv false, iv 1]) (hoR w q ++ [.heap h]) ⟨rfl, rfl, rfl⟩ hd
  refine i_rostrumref24_House_Do.spec follows ?_
  refine VCall.mk [7] (s_refGood h hu s h1 h2) ⟨rfl, rfl, rfl⟩ ?_
  rintro _ _ ⟨rfl, rfl⟩
  refine And.intro (fun k1 => ?_) (fun k1 => fin _ (by have k1 := nT k1; rw [refDE, k1]; rfl))
  have k1 := nF k1
  exact And.intro (fun k2 => fin _ (by rw [refDE, show decide (s.kind < 5) = true from k2]; simp)) (fun k2 => absurd (hbad k1) (of_decide_eq_false k2))
end Go.Proofs

