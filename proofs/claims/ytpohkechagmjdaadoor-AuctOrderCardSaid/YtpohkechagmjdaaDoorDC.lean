/- Part of the proof that the statement named in the last file holds: lemmas of the prover's own. No conditions. -/
import Derived.Test.YtpohkechagmjdaaDoorDB
import Derived.Test.YtpohkechagmjdaaDoorVD
namespace Go.Proofs
open Go Go.V Go.Lib
set_option maxRecDepth 100000
set_option linter.unusedVariables false

/-! ### What a house answers, reckoned -/
def ltDB (a b : Int × Int) : Bool := decide (a.1 < b.1) || (decide (a.1 = b.1) && decide (a.2 < b.2))
theorem ltDB_iff {a b : Int × Int} : ltDB a b = true ↔ ltDD a b := by simp [ltDB, ltDD]
def insD (d : Int × Int) : List (Int × Int) → List (Int × Int)
  | [] => [d]
  | e :: l => bif ltDB d e then d :: e :: l else e :: insD d l
def sortD (l : List (Int × Int)) : List (Int × Int) := l.foldr insD []
theorem mem_insD {d x : Int × Int} : ∀ {l : List (Int × Int)}, x ∈ insD d l ↔ x = d ∨ x ∈ l
  | [] => by simp [insD]
  | e :: l => by
    unfold insD
    cases ltDB d e
    · simp only [cond_false, List.mem_cons, mem_insD (l := l)]
      constructor
      · rintro (h | h | h)
        · exact .inr (.inl h)
        · exact .inl h
        · exact .inr (.inr h)
      · rintro (h | h | h)
        · exact .inr (.inl h)
        · exact .inl h
        · exact .inr (.inr h)
    · simp
theorem mem_sortD {x : Int × Int} : ∀ {l : List (Int × Int)}, x ∈ sortD l ↔ x ∈ l
  | [] => by simp [sortD]
  | e :: l => by
    show x ∈ insD e (sortD l) ↔ _
    rw [mem_insD, mem_sortD (l := l), List.mem_cons]
theorem ltDD.trans {a b c : Int × Int} (h1 : ltDD a b) (h2 : ltDD b c) : ltDD a c := by unfold ltDD at *; omega
theorem ltDD.irr {a : Int × Int} : ¬ ltDD a a := by unfold ltDD; omega
theorem ltDD.tri {a b : Int × Int} (h : a ≠ b) : ltDD a b ∨ ltDD b a := by
  obtain ⟨a1, a2⟩ := a
  obtain ⟨b1, b2⟩ := b
  simp only [ne_eq, Prod.mk.injEq] at h
  unfold ltDD
  simp only
  omega
theorem srt_insD {d : Int × Int} : ∀ {l : List (Int × Int)}, l.Pairwise ltDD → d ∉ l → (insD d l).Pairwise ltDD
  | [], _, _ => by simp [insD]
  | e :: l, h, hd => by
    simp only [List.pairwise_cons] at h
    simp only [List.mem_cons, not_or] at hd
    unfold insD
    cases hq : ltDB d e
    · refine List.pairwise_cons.2 ⟨fun x hx => ?_, srt_insD h.2 hd.2⟩
      rcases mem_insD.1 hx with h1 | h1
      · subst h1
        rcases ltDD.tri hd.1 with h2 | h2
        · rw [ltDB_iff.2 h2] at hq; cases hq
        · exact h2
      · exact h.1 x h1
    · have hq := ltDB_iff.1 hq
      refine List.pairwise_cons.2 ⟨fun x hx => ?_, List.pairwise_cons.2 h⟩
      rcases List.mem_cons.1 hx with h1 | h1
      · subst h1; exact hq
      · exact hq.trans (h.1 x h1)
theorem srt_sortD : ∀ {l : List (Int × Int)}, l.Nodup → (sortD l).Pairwise ltDD
  | [], _ => by simp [sortD]
  | e :: l, h => by
    have h := List.nodup_cons.1 h
    exact srt_insD (srt_sortD h.2) (fun k => h.1 (mem_sortD.1 k))
theorem srt_ext : ∀ {l m : List (Int × Int)}, l.Pairwise ltDD → m.Pairwise ltDD → (∀ x, x ∈ l ↔ x ∈ m) → l = m
  | [], [], _, _, _ => rfl
  | [], b :: m, _, _, h => absurd ((h b).2 (by simp)) (by simp)
  | a :: l, [], _, _, h => absurd ((h a).1 (by simp)) (by simp)
  | a :: l, b :: m, hl, hm, h => by
    have hl := List.pairwise_cons.1 hl
    have hm := List.pairwise_cons.1 hm
    have hab : a = b := by
      have h1 := List.mem_cons.1 ((h a).1 (by simp))
      have h2 := List.mem_cons.1 ((h b).2 (by simp))
      rcases h1 with h1 | h1
      · exact h1
      · rcases h2 with h2 | h2
        · exact h2.symm
        · exact absurd ((hm.1 a h1).trans (hl.1 b h2)) ltDD.irr
    subst hab
    congr 1
    refine srt_ext hl.2 hm.2 fun x => ⟨fun hx => ?_, fun hx => ?_⟩
    · rcases List.mem_cons.1 ((h x).1 (List.mem_cons.2 (.inr hx))) with h1 | h1
      · subst h1; exact absurd (hl.1 x hx) ltDD.irr
      · exact h1
    · rcases List.mem_cons.1 ((h x).2 (List.mem_cons.2 (.inr hx))) with h1 | h1
      · subst h1; exact absurd (hm.1 x hx) ltDD.irr
      · exact h1
/-- An auction's bids, in order. -/
def bidsF (bs : MB) (a : Int × Int) (sv : Nat → Int) : List (Int × Int) := sortD (((bs.filter (bidE a sv)).map (·.1)).filter fun d => !bs.any (canE sv d))
theorem bidsF_is {bs : MB} {a : Int × Int} {sv : Nat → Int} (hnd : (bs.map (·.1)).Nodup) : BidsL bs a sv (bidsF bs a sv) where
  srt := by
    exact srt_sortD (List.Sublist.nodup List.filter_sublist (List.Sublist.nodup (List.Sublist.map _ List.filter_sublist) hnd))
  mem := fun d => by
    rw [bidsF, mem_sortD, List.mem_filter, List.mem_map]
    constructor
    · rintro ⟨⟨e, he, rfl⟩, h2⟩
      have he := List.mem_filter.1 he
      refine ⟨⟨e, he.1, rfl, he.2⟩, ?_⟩
      rintro ⟨e', h3, h4⟩
      rw [List.any_eq_true.2 ⟨e', h3, h4⟩] at h2; cases h2
    · rintro ⟨⟨e, h1, rfl, h2⟩, h3⟩
      refine ⟨⟨e, List.mem_filter.2 ⟨h1, h2⟩, rfl⟩, ?_⟩
      cases hq : bs.any (canE sv e.1) with
      | false => rfl
      | true => exact absurd (List.any_eq_true.1 hq) h3
theorem BidsL.eq {bs : MB} {a : Int × Int} {sv : Nat → Int} {l : List (Int × Int)} (h : BidsL bs a sv l) (hnd : (bs.map (·.1)).Nodup) : l = bidsF bs a sv :=
  srt_ext h.srt (bidsF_is hnd).srt fun x => by rw [h.mem, (bidsF_is hnd).mem]
def gtBB (bs : MB) (a b : Int × Int) : Bool := decide (amt bs b < amt bs a) || (decide (amt bs a = amt bs b) && ltDB a b)
theorem gtBB_iff {bs : MB} {a b : Int × Int} : gtBB bs a b = true ↔ gtB bs a b := by simp [gtBB, gtB, ltDB_iff]
theorem gtB.trans {bs : MB} {a b c : Int × Int} (h1 : gtB bs a b) (h2 : gtB bs b c) : gtB bs a c := by unfold gtB ltDD at *; omega
theorem gtB.tri {bs : MB} {a b : Int × Int} (h : a ≠ b) : gtB bs a b ∨ gtB bs b a := by
  have := ltDD.tri h
  unfold gtB
  rcases this with h | h <;> by_cases h1 : amt bs a < amt bs b <;> by_cases h2 : amt bs b < amt bs a <;> simp [h1, h2, h] <;> omega
/-- The best of a row of bids. -/
def bestF (bs : MB) : List (Int × Int) → Option (Int × Int)
  | [] => none
  | d :: t => some (t.foldl (fun m e => bif gtBB bs e m then e else m) d)
theorem bestF_fold {bs : MB} : ∀ (t : List (Int × Int)) (d : Int × Int), (t.foldl (fun m e => bif gtBB bs e m then e else m) d) ∈ d :: t ∧ ∀ e, e ∈ d :: t → ¬ gtB bs e (t.foldl (fun m e => bif gtBB bs e m then e else m) d)
  | [], d => ⟨by simp, fun e he => by simp at he; subst he; exact gtB_irr⟩
  | x :: t, d => by
    simp only [List.foldl_cons]
    cases hq : gtBB bs x d
    · obtain ⟨h1, h2⟩ := bestF_fold t d
      simp only [cond_false]
      refine ⟨?_, fun e he => ?_⟩
      · rcases List.mem_cons.1 h1 with h | h
        · rw [h]; simp
        · simp [h]
      · rcases List.mem_cons.1 he with h | h
        · exact h2 e (by simp [h])
        · rcases List.mem_cons.1 h with h | h
          · subst h
            intro k
            have h3 := h2 d (by simp)
            have hq : ¬ gtB bs e d := fun k => by rw [gtBB_iff.2 k] at hq; cases hq
            exact (gtB_keep k h3) |> fun h => by
              unfold gtB ltDD at *
              omega
          · exact h2 e (by simp [h])
    · obtain ⟨h1, h2⟩ := bestF_fold t x
      simp only [cond_true]
      have hq := gtBB_iff.1 hq
      refine ⟨by simp only [List.mem_cons] at h1 ⊢; exact .inr h1, fun e he => ?_⟩
      rcases List.mem_cons.1 he with h | h
      · subst h
        intro k
        exact h2 x (by simp) (hq.trans k)
      · exact h2 e h
theorem bestF_is (bs : MB) : ∀ d : List (Int × Int), BestO bs d (bestF bs d)
  | [] => rfl
  | d :: t => bestF_fold t d
theorem BestO.eq {bs : MB} : ∀ {d : List (Int × Int)} {m : Option (Int × Int)}, BestO bs d m → m = bestF bs d
  | [], none, _ => rfl
  | [], some m, h => absurd h.1 (by simp)
  | d :: t, none, h => absurd h (by simp [BestO])
  | d :: t, some m, h => by
    have h' := bestF_fold (bs := bs) t d
    show some m = some _
    congr 1
    generalize hb : t.foldl (fun m e => bif gtBB bs e m then e else m) d = b at h'
    by_cases e : m = b
    · exact e
    · rcases gtB.tri (bs := bs) e with k | k
      · exact absurd k (h'.2 m h.1)
      · exact absurd k (h.2 b h'.1)
/-- How an auction ends by a step. -/
def outF (x : HL) (s : ST) : OC := match bestF x.bs ((bidsF x.bs (s.ar, s.an) s.seen).filter (regB x)) with
  | none => zeroO
  | some m => ⟨m.1, m.2, usr x.bs m, amt x.bs m⟩
theorem OutL.eq {x : HL} {s : ST} {o : OC} (h : OutL x s o) (hnd : (x.bs.map (·.1)).Nodup) : o = outF x s := by
  obtain ⟨l, m, h1, h2, h3⟩ := h.ex
  rw [h1.eq hnd] at h2
  have h2 := h2.eq
  subst h2
  rw [h3, outF]
  cases bestF x.bs ((bidsF x.bs (s.ar, s.an) s.seen).filter (regB x)) <;> rfl
/-! ### Red steps -/
def HL.did (x : HL) (s : ST) : HL := { x with red := x.red ++ [s] }
def usD (x : HL) (s : ST) : HL := { x.did s with us := MP.put x.us (foldB s.user) true x.uc, uc := if (MP.get x.us (foldB s.user)).isSome then x.uc else x.uc + 1 }
def drawnF (x : HL) (u : ByteArray) : Int := (MP.get x.ds u).getD 0
def dsD (x : HL) (s : ST) : HL := { x.did s with ds := MP.put x.ds (foldB s.user) (drawnF x (foldB s.user) + s.amount) x.dc, dc := if (MP.get x.ds (foldB s.user)).isSome then x.dc else x.dc + 1 }
def csD (x : HL) (s : ST) : HL := { x.did s with cs := MP.put x.cs (s.ar, s.an) (outF x s) x.cc, cc := if (MP.get x.cs (s.ar, s.an)).isSome then x.cc else x.cc + 1 }
def gapT (x : HL) (s : ST) : Bool := !leB s.seen x.v || decide ((x.red.length : Int) < s.reds)
def mayEnd (x : HL) (s : ST) : Bool := !(MP.get x.cs (s.ar, s.an)).isSome && (has s.seen s.ar s.an && decide (((MP.get x.bs (s.ar, s.an)).getD zeroT').kind = 1))
def doE (x : HL) (s : ST) : Int := bif !goodT s || !redT s then 1 else bif gapT x s then 8 else 0
def doN (x : HL) (s : ST) : HL := bif decide (s.kind = 5) then usD x s else
  bif decide (s.kind = 6) then (bif decide (s.amount ≤ s.funds - drawnF x (foldB s.user)) then dsD x s else x.did s) else
  bif mayEnd x s then csD x s else x.did s
def doB (x : HL) (s : ST) : Bool := bif decide (s.kind = 5) then !(MP.get x.us (foldB s.user)).getD false else
  bif decide (s.kind = 6) then decide (s.amount ≤ s.funds - drawnF x (foldB s.user)) else mayEnd x s
end Go.Proofs

namespace Go.Proofs
open Go Go.V Go.Lib
set_option maxRecDepth 100000
set_option linter.unusedVariables false

/-! ### What holds of a house -/
theorem mem_put {K V : Type} [DecidableEq K] {e : K × V × Nat} : ∀ {ms : List (K × V × Nat)} {k : K} {v : V} {c : Nat}, e ∈ MP.put ms k v c → e ∈ ms ∨ (e.1 = k ∧ e.2.1 = v)
  | [], k, v, c, h => by simp [MP.put] at h; subst h; exact .inr ⟨rfl, rfl⟩
  | x :: ms, k, v, c, h => by
    unfold MP.put at h
    split at h
    · rename_i hk
      rcases List.mem_cons.1 h with h1 | h1
      · subst h1; exact .inr ⟨hk.symm, rfl⟩
      · exact .inl (by simp [h1])
    · rcases List.mem_cons.1 h with h1 | h1
      · exact .inl (by simp [h1])
      · rcases mem_put h1 with h2 | h2
        · exact .inl (by simp [h2])
        · exact .inr h2
theorem get_of_mem {K V : Type} [DecidableEq K] : ∀ {ms : List (K × V × Nat)} {e : K × V × Nat}, (ms.map (·.1)).Nodup → e ∈ ms → MP.get ms e.1 = some e.2.1
  | [], e, _, h => by simp at h
  | x :: ms, e, hn, h => by
    simp only [List.map_cons, List.nodup_cons] at hn
    rw [get_cons]
    rcases List.mem_cons.1 h with h1 | h1
    · subst h1; simp
    · have : e.1 ≠ x.1 := fun k => hn.1 (List.mem_map.2 ⟨e, h1, k⟩)
      rw [if_neg this]; exact get_of_mem hn.2 h1
theorem mem_of_get {K V : Type} [DecidableEq K] : ∀ {ms : List (K × V × Nat)} {k : K} {v : V}, MP.get ms k = some v → ∃ e, e ∈ ms ∧ e.1 = k ∧ e.2.1 = v
  | [], k, v, h => by simp [get_nil] at h
  | x :: ms, k, v, h => by
    rw [get_cons] at h
    split at h
    · rename_i hk
      exact ⟨x, by simp, hk.symm, by simpa using h⟩
    · obtain ⟨e, h1, h2, h3⟩ := mem_of_get h
      exact ⟨e, by simp [h1], h2, h3⟩
structure HI (x : HL) (N : Nat) : Prop where
  v : ∀ i, i < 7 → 0 ≤ x.v i ∧ x.v i ≤ 1099511627776
  b : MOK x.bs x.bc
  bk : (x.bs.map (·.1)).Nodup
  bl : x.bs.length ≤ N
  be : ∀ e, e ∈ x.bs → goodT e.2.1 = true ∧ redT e.2.1 = false ∧ e.1 = (e.2.1.rep, e.2.1.n) ∧ e.2.1.user.size ≤ 100000000 ∧ has x.v e.1.1 e.1.2 = true
  u : MOK x.us x.uc
  uk : (x.us.map (·.1)).Nodup
  ul : x.us.length ≤ N
  ue : ∀ e, e ∈ x.us → e.2.1 = true
  d : MOK x.ds x.dc
  dk : (x.ds.map (·.1)).Nodup
  dr : ∀ u, 0 ≤ drawnF x u ∧ drawnF x u ≤ 1125899906842624
  c : MOK x.cs x.cc
  ck : (x.cs.map (·.1)).Nodup
  rl : x.red.length ≤ N
theorem HI.new : HI HL.new 0 where
  v := fun i _ => ⟨Int.le_refl _, by show (0 : Int) ≤ _; omega⟩
  b := MOK.nil 0
  bk := by simp [HL.new]
  bl := Nat.le_refl _
  be := by simp [HL.new]
  u := MOK.nil 0
  uk := by simp [HL.new]
  ul := Nat.le_refl _
  ue := by simp [HL.new]
  d := MOK.nil 0
  dk := by simp [HL.new]
  dr := fun u => ⟨Int.le_refl _, by show (0 : Int) ≤ _; omega⟩
  c := MOK.nil 0
  ck := by simp [HL.new]
  rl := Nat.le_refl _
theorem HI.mono {x : HL} {N M : Nat} (h : HI x N) (hn : N ≤ M) : HI x M :=
  ⟨h.v, h.b, h.bk, Nat.le_trans h.bl hn, h.be, h.u, h.uk, Nat.le_trans h.ul hn, h.ue, h.d, h.dk, h.dr, h.c, h.ck, Nat.le_trans h.rl hn⟩
theorem HI.usr {x : HL} {N : Nat} (h : HI x N) (d : Int × Int) : (usr x.bs d).size ≤ 100000000 := by
  unfold Go.Proofs.usr
  cases hq : MP.get x.bs d with
  | none => show (0 : Nat) ≤ _; omega
  | some s =>
    obtain ⟨e, h1, h2, h3⟩ := mem_of_get hq
    have := (h.be e h1).2.2.2.1
    rw [h3] at this; exact this
theorem blueE_0 {x : HL} {s : ST} (h : blueE x s = 0) : goodT s = true ∧ redT s = false ∧ has x.v s.rep s.n = false ∧ s.n = x.v s.rep.toNat + 1 ∧ leB s.seen x.v = true ∧ s.reds ≤ x.red.length := by
  unfold blueE at h
  cases h1 : goodT s
  · simp [h1] at h
  cases h2 : redT s
  · cases h3 : has x.v s.rep s.n
    · cases h4 : decide (s.n = x.v s.rep.toNat + 1)
      · simp [h1, h2, h3, h4] at h
      · cases h5 : leB s.seen x.v
        · simp [h1, h2, h3, h4, h5] at h
        · cases h6 : decide ((x.red.length : Int) < s.reds)
          · exact ⟨rfl, rfl, rfl, of_decide_eq_true h4, rfl, by have := of_decide_eq_false h6; omega⟩
          · simp [h1, h2, h3, h4, h5, h6] at h
    · simp [h1, h2, h3] at h
  · simp [h1, h2] at h
theorem good_dot {s : ST} (h : goodT s = true) : (0 ≤ s.rep ∧ s.rep < 7) ∧ 1 ≤ s.n ∧ s.n ≤ 1099511627776 := by
  simp only [goodT, headT, isDot, isRep, Bool.and_eq_true, decide_eq_true_eq] at h; omega
theorem hasI {v : Nat → Int} {r n : Int} : has v r n = true ↔ (0 ≤ r ∧ r < 7) ∧ 1 ≤ n ∧ n ≤ v r.toNat := by
  simp [has, isRep]
theorem has_up {v : Nat → Int} {s : ST} (hd : (0 ≤ s.rep ∧ s.rep < 7) ∧ 1 ≤ s.n ∧ s.n ≤ 1099511627776) (hn : s.n = v s.rep.toNat + 1) (r n : Int) : has (upv v s.rep.toNat (v s.rep.toNat + 1)) r n = (has v r n || decide (r = s.rep ∧ n = s.n)) := by
  have h1 : 0 ≤ s.rep := hd.1.1
  have h2 : s.rep < 7 := hd.1.2
  have h3 : 1 ≤ s.n := hd.2.1
  have hiff : has (upv v s.rep.toNat (v s.rep.toNat + 1)) r n = true ↔ (has v r n || decide (r = s.rep ∧ n = s.n)) = true := by
    rw [Bool.or_eq_true, hasI, hasI, decide_eq_true_eq]
    have hu : upv v s.rep.toNat (v s.rep.toNat + 1) r.toNat = if r.toNat = s.rep.toNat then v s.rep.toNat + 1 else v r.toNat := rfl
    rw [hu]
    by_cases hr : r = s.rep
    · rw [hr, if_pos rfl]; omega
    · by_cases h0 : 0 ≤ r
      · rw [if_neg (by omega)]; omega
      · omega
  exact Bool.eq_iff_iff.2 hiff
theorem blueN_0 {x : HL} {s : ST} (hb : blueE x s = 0) : blueN x s = { x with v := upv x.v s.rep.toNat (x.v s.rep.toNat + 1), bs := MP.put x.bs (s.rep, s.n) s x.bc, bc := if (MP.get x.bs (s.rep, s.n)).isSome then x.bc else x.bc + 1 } := by rw [blueN, hb]; rfl
theorem blueN_1 {x : HL} {s : ST} (hb : blueE x s ≠ 0) : blueN x s = x := by rw [blueN, show decide (blueE x s = 0) = false by simpa using hb]; rfl
theorem HI.fresh {x : HL} {N : Nat} (h : HI x N) {r n : Int} (hn : has x.v r n = false) : MP.get x.bs (r, n) = none := by
  cases hq : MP.get x.bs (r, n) with
  | none => rfl
  | some s =>
    obtain ⟨e, h1, h2, h3⟩ := mem_of_get hq
    have := (h.be e h1).2.2.2.2
    rw [h2, hn] at this; cases this
theorem HI.blue {x : HL} {N : Nat} (h : HI x N) {s : ST} (hz : s.user.size ≤ 100000000) : HI (blueN x s) (N + 1) := by
  by_cases hb : blueE x s = 0
  · obtain ⟨g1, g2, g3, g4, g5, g6⟩ := blueE_0 hb
    have hd := good_dot g1
    rw [blueN_0 hb]
    have hf := h.fresh g3
    exact {
      v := fun i hi => by
        show 0 ≤ upv x.v s.rep.toNat (x.v s.rep.toNat + 1) i ∧ upv x.v s.rep.toNat (x.v s.rep.toNat + 1) i ≤ _
        unfold upv
        split
        · omega
        · exact h.v i hi
      b := h.b.put _ _
      bk := nodup_put h.bk _ _ _
      bl := by show (MP.put x.bs (s.rep, s.n) s x.bc).length ≤ _; rw [len_put]; have := h.bl; split <;> omega
      be := fun e he => by
        show _ ∧ _ ∧ _ ∧ _ ∧ has (upv x.v s.rep.toNat (x.v s.rep.toNat + 1)) e.1.1 e.1.2 = true
        rw [has_up hd g4]
        rcases mem_put he with k | ⟨k1, k2⟩
        · obtain ⟨a, b, c, d, f⟩ := h.be e k
          exact ⟨a, b, c, d, by rw [f]; rfl⟩
        · rw [k1, k2]
          exact ⟨g1, g2, rfl, hz, by simp⟩
      u := h.u
      uk := h.uk
      ul := Nat.le_succ_of_le h.ul
      ue := h.ue
      d := h.d
      dk := h.dk
      dr := h.dr
      c := h.c
      ck := h.ck
      rl := Nat.le_succ_of_le h.rl }
  · rw [blueN_1 hb]
    exact h.mono (Nat.le_succ _)
theorem HI.did {x : HL} {N : Nat} (h : HI x N) (s : ST) : HI (x.did s) (N + 1) :=
  ⟨h.v, h.b, h.bk, Nat.le_succ_of_le h.bl, h.be, h.u, h.uk, Nat.le_succ_of_le h.ul, h.ue, h.d, h.dk, h.dr, h.c, h.ck, by show (x.red ++ [s]).length ≤ _; have := h.rl; simp; exact this⟩
theorem doE_0 {x : HL} {s : ST} (h : doE x s = 0) : goodT s = true ∧ redT s = true ∧ gapT x s = false := by
  unfold doE at h
  cases h1 : goodT s <;> cases h2 : redT s <;> cases h3 : gapT x s <;> simp [h1, h2, h3] at h ⊢
theorem good_six {s : ST} (h : goodT s = true) (hk : s.kind = 6) : 1 ≤ s.amount ∧ s.amount ≤ 1000000000 ∧ 0 ≤ s.funds ∧ s.funds ≤ 1125899906842624 := by
  simp [goodT, partT, numB, hk, amntK] at h
  obtain ⟨_, _, _, _, _, _, h1, h2⟩ := h
  omega
theorem HI.red {x : HL} {N : Nat} (h : HI x N) {s : ST} (he : doE x s = 0) : HI (doN x s) (N + 1) := by
  have hg := (doE_0 he).1
  have hd := h.did s
  unfold doN
  by_cases k5 : s.kind = 5
  · rw [show decide (s.kind = 5) = true from decide_eq_true k5]
    exact ⟨hd.v, hd.b, hd.bk, hd.bl, hd.be, h.u.put _ _, nodup_put h.uk _ _ _, by show (MP.put x.us (foldB s.user) true x.uc).length ≤ _; rw [len_put]; have := h.ul; split <;> omega, fun e he => by
      rcases mem_put he with k | ⟨_, k⟩
      · exact h.ue e k
      · exact k, hd.d, hd.dk, hd.dr, hd.c, hd.ck, hd.rl⟩
  rw [show decide (s.kind = 5) = false from decide_eq_false k5]
  by_cases k6 : s.kind = 6
  · rw [show decide (s.kind = 6) = true from decide_eq_true k6]
    have hs := good_six hg k6
    by_cases k7 : s.amount ≤ s.funds - drawnF x (foldB s.user)
    · simp only [cond_false, cond_true, decide_eq_true k7]
      exact ⟨hd.v, hd.b, hd.bk, hd.bl, hd.be, hd.u, hd.uk, hd.ul, hd.ue, h.d.put _ _, nodup_put h.dk _ _ _, fun u => by
        show 0 ≤ (MP.get (MP.put x.ds (foldB s.user) (drawnF x (foldB s.user) + s.amount) x.dc) u).getD 0 ∧ _ ≤ _
        have h1 := h.dr u
        have h2 := h.dr (foldB s.user)
        have heq : drawnF (dsD x s) u = if u = foldB s.user then drawnF x (foldB s.user) + s.amount else drawnF x u := by
          show (MP.get (MP.put x.ds (foldB s.user) (drawnF x (foldB s.user) + s.amount) x.dc) u).getD 0 = _
          rw [get_put]
          split <;> rfl
        show 0 ≤ drawnF (dsD x s) u ∧ drawnF (dsD x s) u ≤ _
        rw [heq]
        split <;> omega, hd.c, hd.ck, hd.rl⟩
    · simp only [cond_false, cond_true, decide_eq_false k7]
      exact hd
  rw [show decide (s.kind = 6) = false from decide_eq_false k6]
  simp only [cond_false]
  cases mayEnd x s
  · exact hd
  · exact ⟨hd.v, hd.b, hd.bk, hd.bl, hd.be, hd.u, hd.uk, hd.ul, hd.ue, hd.d, hd.dk, hd.dr, h.c.put _ _, nodup_put h.ck _ _ _, hd.rl⟩
end Go.Proofs

namespace Go.Proofs
open Go Go.V Go.Lib
set_option maxRecDepth 100000
set_option linter.unusedVariables false

/-! ### Red steps, walked -/
abbrev hoG (x : HL) (rx : List Value) (ro rc : Nat) : List SO := [.cells (vcells x.v ++ [.mp 1, .sl 7 ro x.red.length rc, .mp 2, .mp 3, .mp 4]) T_auct_House,
  .map (ents encD encST x.bs) x.bc, .map (ents encT encB x.us) x.uc, .map (ents encT encN x.ds) x.dc, .map (ents encD encO x.cs) x.cc, .gone]
def DoPost (h : Nat → Option Obj) (x : HL) (rx : List Value) (ro rc : Nat) (s : ST) (r : SV) (H : List SO) : Prop :=
  (doE x s ≠ 0 ∧ r = .tup [bv false, iv (doE x s)] ∧ H = hoH x rx ro rc ++ [.heap h]) ∨
  (doE x s = 0 ∧ r = .tup [bv (doB x s), iv 0] ∧ ∃ rx' ro' rc', RowG stcl 19 rx' ro' rc' (doN x s).red ∧ H = hoG (doN x s) rx' ro' rc' ++ [.heap h, .arr rx' T_auct_Step])
theorem s_Do (h : Nat → Option Obj) (hu : Uni h) (hc : CaseH h) (x : HL) (N : Nat) (hx : HI x N) (hN : N ≤ 1000000) (rx : List Value) (ro rc : Nat) (hr : RowG stcl 19 rx ro rc x.red) (s : ST) (h1 : s.name.size ≤ 4611686018427387904) (h2 : s.user.size ≤ 100000000) :
    Ctr Tryd.prog F_auct_House_Do [.ptr 0 0, .agg (stcells s)] (hoH x rx ro rc ++ [.heap h]) (DoPost h x rx ro rc s) := by
  have fin : ∀ (e : Int) (l : List SO), e ≠ 0 → doE x s = e → VRet 7 (.tup [bv false, iv e]) (hoH x rx ro rc ++ .heap h :: l) (DoPost h x rx ro rc s) := by
    intro e l he hb
    exact VRet.mk [0, 1, 2, 3, 4, 5, 6] (.tup [bv false, iv e]) (hoH x rx ro rc ++ [.heap h]) ⟨rfl, rfl, rfl⟩ (.inl ⟨by rw [hb]; exact he, by rw [hb], rfl⟩)
  have fin2 : ∀ (b : Bool) (x' : HL) (rx' : List Value) (ro' rc' n : Nat) (A B : SO) (l : List SO), doE x s = 0 → doN x s = x' → doB x s = b → x'.red.length = n → RowG stcl 19 rx' ro' rc' x'.red →
      VRet 7 (.tup [bv b, iv 0]) ([.cells (vcells x'.v ++ [.mp 1, .sl 9 ro' n rc', .mp 2, .mp 3, .mp 4]) T_auct_House, .map (ents encD encST x'.bs) x'.bc, .map (ents encT encB x'.us) x'.uc, .map (ents encT encN x'.ds) x'.dc, .map (ents encD encO x'.cs) x'.cc, .gone, .heap h, A, B, .arr rx' T_auct_Step] ++ l) (DoPost h x rx ro rc s) := by
    rintro b x' rx' ro' rc' n A B l he rfl rfl rfl hr'
    exact VRet.mk [0, 1, 2, 3, 4, 5, 6, 9] (.tup [bv (doB x s), iv 0]) (hoG (doN x s) rx' ro' rc' ++ [.heap h, .arr rx' T_auct_Step]) ⟨rfl, rfl, rfl⟩ (.inr ⟨he, rfl, rx', ro', rc', hr', rfl⟩)
  refine i_auct_House_Do.spec follows ?_
  refine VCall.mk [6] (s_Good h hu s h1 (by omega)) ⟨rfl, rfl, rfl⟩ ?_
  rintro _ _ ⟨rfl, rfl⟩
  refine And.intro (fun k1 => ?_) (fun k1 => fin 1 _ (by decide) (by simp at k1; simp [doE, k1]))
  have k1 : goodT s = true := by simpa using k1
  refine VCall.mk [] (s_Red s) ⟨rfl, rfl, rfl⟩ ?_
  rintro _ _ ⟨rfl, rfl⟩
  refine And.intro (fun k2 => fin 1 _ (by decide) (by simp at k2; simp [doE, k2])) (fun k2 => ?_)
  have k2 : redT s = true := by simpa using k2
  refine VCall.mk [] (s_vec_Le s.seen x.v) ⟨rfl, rfl, rfl⟩ ?_
  rintro _ _ ⟨rfl, rfl⟩
  refine And.intro (fun k3 => ?_) (fun k3 => fin 8 _ (by decide) (by have k3 : leB s.seen x.v = false := by simpa using k3
                                                                     rw [doE, gapT, k1, k2, k3]; rfl))
  have k3 : leB s.seen x.v = true := by simpa using k3
  refine And.intro (fun k4 => fin 8 _ (by decide) (by rw [doE, gapT, k1, k2, k3, show decide ((x.red.length : Int) < s.reds) = true from k4]; rfl)) (fun k4 => ?_)
  have he : doE x s = 0 := by rw [doE, gapT, k1, k2, k3, show decide ((x.red.length : Int) < s.reds) = false from k4]; rfl
  have hnb : (x.red.length + 1) * 168 ≤ 1099511627776 := by have := hx.rl; omega
  refine And.intro rfl (And.intro rfl ?_)
  refine And.intro ⟨⟨hr.1, hr.2.1, rfl⟩, ⟨rfl, rfl⟩, hnb⟩ ?_
  intro xs' o' c' hz
  have hr' : RowG stcl 19 xs' o' c' (x.did s).red := RowG.snoc hr rfl hz.1 hz.2.1 hz.2.2
  have hlen : (x.did s).red.length = x.red.length + 1 := by show (x.red ++ [s]).length = _; simp
  refine VCall.mk [6] (s_name_Fold h hc s.user h2) ⟨rfl, rfl, rfl⟩ ?_
  rintro _ _ ⟨rfl, rfl⟩
  refine And.intro (fun k5 => ?_) (fun k5 => ?_)
  · have k5 : s.kind = 5 := of_decide_eq_true k5
    refine Exists.intro (bv ((MP.get x.us (foldB s.user)).getD false)) (Exists.intro _ (Exists.intro _ (And.intro (lookU x.us (foldB s.user)) (And.intro rfl ?_))))
    refine Exists.intro _ (Exists.intro _ (And.intro (update_is (encv := encB) kU x.us x.uc (foldB s.user) true) ?_))
    exact fin2 (!(MP.get x.us (foldB s.user)).getD false) (usD x s) _ _ _ _ _ _ _ he (by simp [doN, k5]) (by simp [doB, k5]) hlen hr'
  have k5 : ¬ s.kind = 5 := of_decide_eq_false k5
  refine And.intro (fun k6 => ?_) (fun k6 => ?_)
  · have k6 : s.kind = 6 := of_decide_eq_true k6
    have hs := good_six k1 k6
    have hd := hx.dr (foldB s.user)
    have hw : IntKind.i64.wrap (s.funds - (MP.get x.ds (foldB s.user)).getD 0) = s.funds - drawnF x (foldB s.user) := wrap64 (by unfold drawnF at hd; omega)
    have hw2 : IntKind.i64.wrap ((MP.get x.ds (foldB s.user)).getD 0 + s.amount) = drawnF x (foldB s.user) + s.amount := wrap64 (by unfold drawnF at hd; omega)
    refine Exists.intro (iv ((MP.get x.ds (foldB s.user)).getD 0)) (Exists.intro _ (Exists.intro _ (And.intro (lookD x.ds (foldB s.user)) (And.intro rfl ?_))))
    refine Exists.intro _ (And.intro hw ?_)
    refine And.intro (fun k7 => ?_) (fun k7 => ?_)
    · have k7 : s.funds - drawnF x (foldB s.user) < s.amount := of_decide_eq_true k7
      have k8 : ¬ s.amount ≤ s.funds - drawnF x (foldB s.user) := by omega
      exact fin2 false (x.did s) _ _ _ _ _ _ _ he (by simp [doN, k5, k6, k8]) (by simp [doB, k5, k6, k8]) hlen hr'
    · have k7 : ¬ s.funds - drawnF x (foldB s.user) < s.amount := of_decide_eq_false k7
      have k8 : s.amount ≤ s.funds - drawnF x (foldB s.user) := by omega
      refine Exists.intro (iv ((MP.get x.ds (foldB s.user)).getD 0)) (Exists.intro _ (Exists.intro _ (And.intro (lookD x.ds (foldB s.user)) (And.intro rfl ?_))))
      refine Exists.intro _ (And.intro hw2 ?_)
      refine Exists.intro _ (Exists.intro _ (And.intro (update_is (encv := encN) kD x.ds x.dc (foldB s.user) (drawnF x (foldB s.user) + s.amount)) ?_))
      exact fin2 true (dsD x s) _ _ _ _ _ _ _ he (by simp [doN, k5, k6, k8]) (by simp [doB, k5, k6, k8]) hlen hr'
  have k6 : ¬ s.kind = 6 := of_decide_eq_false k6
  refine Exists.intro (.agg (occells ((MP.get x.cs (s.ar, s.an)).getD zeroO))) (Exists.intro _ (Exists.intro _ (And.intro (lookC x.cs (s.ar, s.an)) (And.intro rfl ?_))))
  refine And.intro rfl (And.intro rfl (And.intro rfl ?_))
  refine And.intro (Exists.intro (.agg (occells ((MP.get x.cs (s.ar, s.an)).getD zeroO))) (Exists.intro _ (Exists.intro _ (And.intro (lookC x.cs (s.ar, s.an)) (And.intro rfl rfl))))) ?_
  have hdN : ∀ b, mayEnd x s = b → doN x s = bif b then csD x s else x.did s := fun b hb => by simp [doN, k5, k6, hb]
  have hdB : ∀ b, mayEnd x s = b → doB x s = b := fun b hb => by simp [doB, k5, k6, hb]
  have shut : ∀ (A B : SO) (l : List SO), mayEnd x s = false → VRet 7 (.tup [bv false, iv 0]) ([.cells (vcells x.v ++ [.mp 1, .sl 9 o' (x.red.length + 1) c', .mp 2, .mp 3, .mp 4]) T_auct_House, .map (ents encD encST x.bs) x.bc, .map (ents encT encB x.us) x.uc, .map (ents encT encN x.ds) x.dc, .map (ents encD encO x.cs) x.cc, .gone, .heap h, A, B, .arr xs' T_auct_Step] ++ l) (DoPost h x rx ro rc s) :=
    fun A B l hm => fin2 false (x.did s) xs' o' c' _ A B l he (by rw [hdN _ hm]; rfl) (hdB _ hm) hlen hr'
  refine And.intro (fun k7 => ?_) (fun k7 => ?_)
  · refine VCall.mk [] (s_vec_Has s.seen s.ar s.an) ⟨rfl, rfl, rfl⟩ ?_
    rintro _ _ ⟨rfl, rfl⟩
    refine And.intro (fun k8 => ?_) (fun k8 => ?_)
    · have k8 : has s.seen s.ar s.an = true := by simpa using k8
      refine Exists.intro (.agg (stcells ((MP.get x.bs (s.ar, s.an)).getD zeroT'))) (Exists.intro _ (Exists.intro _ (And.intro (lookB x.bs (s.ar, s.an)) (And.intro rfl ?_))))
      refine And.intro (fun k9 => ?_) (fun k9 => ?_)
      · have k9 : ¬ ((MP.get x.bs (s.ar, s.an)).getD zeroT').kind = 1 := by simpa using k9
        exact shut _ _ _ (by simp [mayEnd, k9])
      · have k9 : ((MP.get x.bs (s.ar, s.an)).getD zeroT').kind = 1 := by simpa using k9
        have hm : mayEnd x s = true := by simp [mayEnd, k7, k8, k9]
        have hE := s_ends h hc (x.did s) hx.usr hx.b hx.bk (by have := hx.bl; show x.bs.length ≤ _; omega) xs' o' c' s
        simp only [hoH, hlen] at hE
        refine VCall.mk [0, 1, 2, 3, 4, 9, 6] hE ⟨rfl, rfl, rfl⟩ ?_
        rintro _ _ ⟨o, hO, rfl, rfl⟩
        have hO := hO.eq hx.bk
        subst hO
        refine And.intro rfl (And.intro rfl (And.intro rfl ?_))
        refine Exists.intro _ (Exists.intro _ (And.intro (update_is (encv := encO) kC x.cs x.cc (s.ar, s.an) (outF x s)) ?_))
        exact fin2 true (csD x s) xs' o' c' _ _ _ _ he (by rw [hdN _ hm]; rfl) (hdB _ hm) hlen hr'
    · have k8 : has s.seen s.ar s.an = false := by simpa using k8
      exact shut _ _ _ (by simp [mayEnd, k8])
  · exact shut _ _ _ (by simp [mayEnd, k7])
end Go.Proofs

namespace Go.Proofs
open Go Go.V Go.Lib
set_option maxRecDepth 100000
set_option linter.unusedVariables false

/-! ### What a house tells -/
def openF (x : HL) (a : Int × Int) : Bool := decide (((MP.get x.bs a).getD zeroT').kind = 1) && !(MP.get x.cs a).isSome
theorem s_Open (x : HL) (rx : List Value) (ro rc : Nat) (a : Int × Int) : Ctr Tryd.prog F_auct_House_Open [.ptr 0 0, .agg (dcells a.1 a.2)] (hoH x rx ro rc) (fun r H => r = bv (openF x a) ∧ H = hoH x rx ro rc) := by
  refine i_auct_House_Open.spec follows ?_
  refine Exists.intro (.agg (occells ((MP.get x.cs (a.1, a.2)).getD zeroO))) (Exists.intro _ (Exists.intro _ (And.intro (lookC x.cs (a.1, a.2)) (And.intro rfl ?_))))
  refine And.intro rfl (And.intro rfl (And.intro rfl ?_))
  refine And.intro (Exists.intro (.agg (occells ((MP.get x.cs (a.1, a.2)).getD zeroO))) (Exists.intro _ (Exists.intro _ (And.intro (lookC x.cs (a.1, a.2)) (And.intro rfl rfl))))) ?_
  refine Exists.intro (.agg (stcells ((MP.get x.bs (a.1, a.2)).getD zeroT'))) (Exists.intro _ (Exists.intro _ (And.intro (lookB x.bs (a.1, a.2)) (And.intro rfl ?_))))
  have fin : ∀ (b : Bool) (l : List SO), b = openF x a → VRet 6 (bv b) (hoH x rx ro rc ++ l) (fun r H => r = bv (openF x a) ∧ H = hoH x rx ro rc) := by
    rintro b l rfl
    exact VRet.mk [0, 1, 2, 3, 4, 5] _ (hoH x rx ro rc) ⟨rfl, rfl, rfl⟩ ⟨rfl, rfl⟩
  refine And.intro (fun k => ?_) (fun k => ?_)
  · exact fin _ _ (by show _ = (decide (((MP.get x.bs (a.1, a.2)).getD zeroT').kind = 1) && !(MP.get x.cs (a.1, a.2)).isSome); rw [k]; rfl)
  · exact fin _ _ (by show _ = (decide (((MP.get x.bs (a.1, a.2)).getD zeroT').kind = 1) && !(MP.get x.cs (a.1, a.2)).isSome); rw [k]; rfl)

theorem s_Winner (x : HL) (rx : List Value) (ro rc : Nat) (a : Int × Int) : Ctr Tryd.prog F_auct_House_Winner [.ptr 0 0, .agg (dcells a.1 a.2)] (hoH x rx ro rc)
    (fun r H => r = .tup [.agg (dcells ((MP.get x.cs a).getD zeroO).br ((MP.get x.cs a).getD zeroO).bn), .raw (.string ((MP.get x.cs a).getD zeroO).user), iv ((MP.get x.cs a).getD zeroO).amount, bv (MP.get x.cs a).isSome] ∧ H = hoH x rx ro rc) := by
  refine i_auct_House_Winner.spec follows ?_
  refine Exists.intro (.agg (occells ((MP.get x.cs (a.1, a.2)).getD zeroO))) (Exists.intro _ (Exists.intro _ (And.intro (lookC x.cs (a.1, a.2)) (And.intro rfl ?_))))
  refine And.intro rfl (And.intro rfl (And.intro rfl ?_))
  refine And.intro (Exists.intro (.agg (occells ((MP.get x.cs (a.1, a.2)).getD zeroO))) (Exists.intro _ (Exists.intro _ (And.intro (lookC x.cs (a.1, a.2)) (And.intro rfl rfl))))) ?_
  refine And.intro rfl (And.intro rfl ?_)
  exact VRet.mk [0, 1, 2, 3, 4, 5] (.tup [.agg (dcells ((MP.get x.cs (a.1, a.2)).getD zeroO).br ((MP.get x.cs (a.1, a.2)).getD zeroO).bn), .raw (.string ((MP.get x.cs (a.1, a.2)).getD zeroO).user), iv ((MP.get x.cs (a.1, a.2)).getD zeroO).amount, bv (MP.get x.cs (a.1, a.2)).isSome]) (hoH x rx ro rc) ⟨rfl, rfl, rfl⟩ ⟨rfl, rfl⟩
theorem s_Reds (x : HL) (rx : List Value) (ro rc : Nat) : Ctr Tryd.prog F_auct_House_Reds [.ptr 0 0] (hoH x rx ro rc) (fun r H => r = iv x.red.length ∧ H = hoH x rx ro rc) := by
  refine i_auct_House_Reds.spec follows ?_
  exact VRet.mk [0, 1, 2, 3, 4, 5] (iv x.red.length) (hoH x rx ro rc) ⟨rfl, rfl, rfl⟩ ⟨rfl, rfl⟩
theorem s_Have (x : HL) (rx : List Value) (ro rc : Nat) : Ctr Tryd.prog F_auct_House_Have [.ptr 0 0] (hoH x rx ro rc) (fun r H => r = .agg (vcells x.v) ∧ H = hoH x rx ro rc) := by
  refine i_auct_House_Have.spec follows ?_
  exact VRet.mk [0, 1, 2, 3, 4, 5] (.agg (vcells x.v)) (hoH x rx ro rc) ⟨rfl, rfl, rfl⟩ ⟨rfl, rfl⟩
theorem s_Bids (x : HL) (hok : MOK x.bs x.bc) (hnd : (x.bs.map (·.1)).Nodup) (hb : x.bs.length ≤ 1000000) (rx : List Value) (ro rc : Nat) (a : Int × Int) :
    Ctr Tryd.prog F_auct_House_Bids [.ptr 0 0, .agg (dcells a.1 a.2)] (hoH x rx ro rc)
      (fun r H => ∃ xs o c, r = .sl 6 o (bidsF x.bs a x.v).length c ∧ H = hoH x rx ro rc ++ [.arr xs T_api_Dot] ∧ RowG dcl 2 xs o c (bidsF x.bs a x.v) ∧ (bidsF x.bs a x.v).length ≤ x.bs.length) := by
  refine i_auct_House_Bids.spec follows ?_
  refine VCall.mk [0, 1, 2, 3, 4, 5] (s_bids x hok hnd hb rx ro rc (a.1, a.2) x.v) ⟨rfl, rfl, rfl⟩ ?_
  rintro _ _ ⟨l, xs, o, c, rfl, rfl, hr, hL, hll⟩
  have hl := hL.eq hnd
  subst hl
  exact VRet.mk [0, 1, 2, 3, 4, 5, 7] (.sl 6 o (bidsF x.bs a x.v).length c) (hoH x rx ro rc ++ [.arr xs T_api_Dot]) ⟨rfl, rfl, rfl⟩ ⟨xs, o, c, rfl, rfl, hr, hll⟩
theorem s_Best (x : HL) (hok : MOK x.bs x.bc) (hnd : (x.bs.map (·.1)).Nodup) (hb : x.bs.length ≤ 1000000) (rx : List Value) (ro rc : Nat) (a : Int × Int) :
    Ctr Tryd.prog F_auct_House_Best [.ptr 0 0, .agg (dcells a.1 a.2)] (hoH x rx ro rc) (fun r H => r = bestV (bestF x.bs (bidsF x.bs a x.v)) ∧ H = hoH x rx ro rc) := by
  refine i_auct_House_Best.spec follows ?_
  refine VCall.mk [0, 1, 2, 3, 4, 5] (s_Bids x hok hnd hb rx ro rc (a.1, a.2)) ⟨rfl, rfl, rfl⟩ ?_
  rintro _ _ ⟨xs, o, c, rfl, rfl, hr, hll⟩
  refine VCall.mk [0, 1, 2, 3, 4, 5, 8] (s_best x rx ro rc _ xs o c hr (by omega)) ⟨rfl, rfl, rfl⟩ ?_
  rintro _ _ ⟨m, hm, rfl, rfl⟩
  have hm := hm.eq
  subst hm
  cases hq : bestF x.bs (bidsF x.bs (a.1, a.2) x.v) with
  | none => exact VRet.mk [0, 1, 2, 3, 4, 5] (.tup [.agg (dcells 0 0), bv false]) (hoH x rx ro rc) ⟨rfl, rfl, rfl⟩ ⟨rfl, rfl⟩
  | some m => exact VRet.mk [0, 1, 2, 3, 4, 5] (.tup [.agg (dcells m.1 m.2), bv true]) (hoH x rx ro rc) ⟨rfl, rfl, rfl⟩ ⟨rfl, rfl⟩
end Go.Proofs

namespace Go.Proofs
open Go Go.V Go.Lib
set_option maxRecDepth 100000
set_option linter.unusedVariables false

theorem strB {a b : ByteArray} : (a.toList == b.toList) = decide (a = b) := by
  rw [ByteArray.toList_eq, ByteArray.toList_eq]
  apply Bool.eq_iff_iff.2
  rw [beq_iff_eq, decide_eq_true_eq]
  constructor
  · intro h
    cases a with | mk a => cases b with | mk b =>
      congr 1
      exact Array.toList_inj.1 h
  · intro h; rw [h]
/-! ### What was deposited -/
def depE (f : ByteArray) (e : (Int × Int) × ST × Nat) : Bool := decide (e.2.1.kind = 4) && decide (foldB e.2.1.user = f)
def depS (f : ByteArray) : MB → Int
  | [] => 0
  | e :: l => (bif depE f e then e.2.1.amount else 0) + depS f l
theorem depS_app (f : ByteArray) : ∀ (l m : MB), depS f (l ++ m) = depS f l + depS f m
  | [], m => by simp [depS]
  | e :: l, m => by simp only [List.cons_append, depS, depS_app f l m]; omega
theorem depS_perm (f : ByteArray) {l m : MB} (h : l.Perm m) : depS f l = depS f m := by
  induction h with
  | nil => rfl
  | cons x h ih => simp only [depS, ih]
  | swap x y l => simp only [depS]; omega
  | trans h1 h2 i1 i2 => rw [i1, i2]
theorem depS_nn (f : ByteArray) : ∀ {l : MB}, (∀ e, e ∈ l → goodT e.2.1 = true) → 0 ≤ depS f l
  | [], _ => Int.le_refl _
  | e :: l, h => by
    have h1 := depS_nn f (l := l) (fun e he => h e (by simp [he]))
    simp only [depS]
    cases hq : depE f e
    · simpa using h1
    · have hk : e.2.1.kind = 4 := by simp [depE] at hq; exact hq.1
      have hg := h e (by simp)
      have : 1 ≤ e.2.1.amount := by
        simp [goodT, partT, numB, hk, amntK] at hg
        omega
      simp only [cond_true]; omega
def depF (x : HL) (u : ByteArray) : Int := min (depS (foldB u) x.bs) 1125899906842624
theorem good_four {s : ST} (h : goodT s = true) (hk : s.kind = 4) : 1 ≤ s.amount ∧ s.amount ≤ 1000000000 := by
  simp [goodT, partT, numB, hk, amntK] at h
  omega
structure DPX where
  pre : MB
  seen : List Nat
theorem s_Deposited (h : Nat → Option Obj) (hc : CaseH h) (x : HL) (N : Nat) (hx : HI x N) (rx : List Value) (ro rc : Nat) (u : ByteArray) (hu : u.size ≤ 100000000) :
    Ctr Tryd.prog F_auct_House_Deposited [.ptr 0 0, .raw (.string u)] (hoH x rx ro rc ++ [.heap h]) (fun r H => r = iv (depF x u) ∧ H = hoH x rx ro rc ++ [.heap h]) := by
  refine i_auct_House_Deposited.spec follows ?_
  refine VLoop.mk DPX (fun y => [(1, .raw (.string u)), (5, iv (min (depS (foldB u) y.pre) 1125899906842624)), (12, .ptr 7 0)]) (fun y => hoH x rx ro rc ++ [.heap h, .iter (some 1) x.bc y.seen x.bc]) (fun y => Been x.bs y.pre y.seen) (fun y => x.bs.length - y.pre.length) ⟨[], []⟩ [0, 1, 2, 3, 4, 5, 6, 7]
    ⟨Been.nil _, rfl, rfl, rfl⟩ ?_
  rintro ⟨pre, seen⟩ h1 g
  simp only at h1
  refine And.intro ⟨fun e he => ?_, Nat.le_refl _⟩ (And.intro (fun hall => ?_) (fun e he hns => ?_))
  · obtain ⟨y, hy, rfl⟩ := List.mem_map.1 he
    exact hx.b.1 y hy
  · have hsub : ∀ y, y ∈ x.bs → y ∈ pre := fun y hy => h1.all hx.b.2 hy (hall _ (List.mem_map.2 ⟨y, hy, rfl⟩))
    have hpn : pre.Nodup := by have := h1.nd; rw [h1.eq] at this; exact nodup_of_map _ this
    have hp : pre.Perm x.bs := (List.perm_ext_iff_of_nodup hpn (nodup_of_map _ hx.bk)).2 fun a => ⟨h1.sub a, hsub a⟩
    have hd : depS (foldB u) pre = depS (foldB u) x.bs := depS_perm _ hp
    exact VRet.mk [0, 1, 2, 3, 4, 5, 6] (iv (min (depS (foldB u) pre) 1125899906842624)) (hoH x rx ro rc ++ [.heap h]) ⟨rfl, rfl, rfl⟩ ⟨by rw [hd]; rfl, rfl⟩
  · obtain ⟨y, hy, rfl⟩ := List.mem_map.1 he
    have hns : y.2.2 ∉ seen := hns
    have hlen : x.bs.length - (pre ++ [y]).length < x.bs.length - pre.length := by classical exact h1.len hy hns
    have hmore := h1.more hy hns
    have hbe := hx.be y hy
    have hnn : 0 ≤ depS (foldB u) pre := depS_nn _ fun e he => (hx.be e (h1.sub e he)).1
    refine Exists.intro y.2.2 (Exists.intro (ent encD encST y) (And.intro (last_snoc _ _) (And.intro (find_ents hx.b.2 hy) (And.intro rfl ?_))))
    have skip : depE (foldB u) y = false → depS (foldB u) (pre ++ [y]) = depS (foldB u) pre := fun hq => by rw [depS_app]; simp [depS, hq]
    refine And.intro (fun k1 => ?_) (fun k1 => ?_)
    · have k1 : y.2.1.kind = 4 := of_decide_eq_true k1
      refine VCall.mk [6] (s_name_Fold h hc y.2.1.user hbe.2.2.2.1) ⟨rfl, rfl, rfl⟩ ?_
      rintro _ _ ⟨rfl, rfl⟩
      refine VCall.mk [6] (s_name_Fold h hc u hu) ⟨rfl, rfl, rfl⟩ ?_
      rintro _ _ ⟨rfl, rfl⟩
      have hs4 := good_four hbe.1 k1
      have hnn2 : min (depS (foldB u) pre) 1125899906842624 ≤ 1125899906842624 := Int.min_le_right _ _
      have hnn3 : 0 ≤ min (depS (foldB u) pre) 1125899906842624 := by omega
      refine And.intro (fun k2 => ?_) (fun k2 => ?_)
      · rw [strB] at k2
        have k2 : foldB y.2.1.user = foldB u := of_decide_eq_true k2
        have hq : depE (foldB u) y = true := by simp [depE, k1, k2]
        have hS : depS (foldB u) (pre ++ [y]) = depS (foldB u) pre + y.2.1.amount := by rw [depS_app]; simp [depS, hq]
        have hw : IntKind.i64.wrap (min (depS (foldB u) pre) 1125899906842624 + y.2.1.amount) = min (depS (foldB u) pre) 1125899906842624 + y.2.1.amount := wrap64 (by omega)
        refine Exists.intro _ (And.intro hw ?_)
        have e : (if 1125899906842624 < min (depS (foldB u) pre) 1125899906842624 + y.2.1.amount then 1125899906842624 else min (depS (foldB u) pre) 1125899906842624 + y.2.1.amount) = min (depS (foldB u) (pre ++ [y])) 1125899906842624 := by
          rw [hS]
          split <;> omega
        exact Exists.intro ⟨pre ++ [y], seen ++ [y.2.2]⟩ (Exists.intro [0, 1, 2, 3, 4, 5, 6, 7] (And.intro ⟨hmore, hlen⟩ ⟨by simp only [← e]; rfl, rfl, rfl⟩))
      · rw [strB] at k2
        have k2 : ¬ foldB y.2.1.user = foldB u := of_decide_eq_false k2
        exact Exists.intro ⟨pre ++ [y], seen ++ [y.2.2]⟩ (Exists.intro [0, 1, 2, 3, 4, 5, 6, 7] (And.intro ⟨hmore, hlen⟩ ⟨by simp only [skip (show depE (foldB u) y = false by simp [depE, k2])]; rfl, rfl, rfl⟩))
    · have k1 : ¬ y.2.1.kind = 4 := of_decide_eq_false k1
      exact Exists.intro ⟨pre ++ [y], seen ++ [y.2.2]⟩ (Exists.intro [0, 1, 2, 3, 4, 5, 6, 7] (And.intro ⟨hmore, hlen⟩ ⟨by simp only [skip (show depE (foldB u) y = false by simp [depE, k1])]; rfl, rfl, rfl⟩))
theorem s_Balance (h : Nat → Option Obj) (hc : CaseH h) (x : HL) (N : Nat) (hx : HI x N) (rx : List Value) (ro rc : Nat) (u : ByteArray) (hu : u.size ≤ 100000000) :
    Ctr Tryd.prog F_auct_House_Balance [.ptr 0 0, .raw (.string u)] (hoH x rx ro rc ++ [.heap h]) (fun r H => r = iv (depF x u - drawnF x (foldB u)) ∧ H = hoH x rx ro rc ++ [.heap h]) := by
  refine i_auct_House_Balance.spec follows ?_
  refine VCall.mk [0, 1, 2, 3, 4, 5, 6] (s_Deposited h hc x N hx rx ro rc u hu) ⟨rfl, rfl, rfl⟩ ?_
  rintro _ _ ⟨rfl, rfl⟩
  refine And.intro rfl (And.intro rfl ?_)
  refine VCall.mk [6] (s_name_Fold h hc u hu) ⟨rfl, rfl, rfl⟩ ?_
  rintro _ _ ⟨rfl, rfl⟩
  refine And.intro rfl (And.intro rfl ?_)
  have hd := hx.dr (foldB u)
  have hdp : 0 ≤ depF x u ∧ depF x u ≤ 1125899906842624 := by
    have h1 : 0 ≤ depS (foldB u) x.bs := depS_nn _ fun e he => (hx.be e he).1
    unfold depF; omega
  have hw : IntKind.i64.wrap (depF x u - (MP.get x.ds (foldB u)).getD 0) = depF x u - drawnF x (foldB u) := wrap64 (by unfold drawnF at hd; omega)
  refine Exists.intro (iv ((MP.get x.ds (foldB u)).getD 0)) (Exists.intro _ (Exists.intro _ (And.intro (lookD x.ds (foldB u)) (And.intro rfl ?_))))
  refine Exists.intro _ (And.intro hw ?_)
  exact VRet.mk [0, 1, 2, 3, 4, 5, 6] (iv (depF x u - drawnF x (foldB u))) (hoH x rx ro rc ++ [.heap h]) ⟨rfl, rfl, rfl⟩ ⟨rfl, rfl⟩
/-! ### All auctions -/
def opE (e : (Int × Int) × ST × Nat) : Bool := decide (e.2.1.kind = 1)
def aucF (x : HL) : List (Int × Int) := sortD ((x.bs.filter opE).map (·.1))
theorem cmp_srt {d l : List (Int × Int)} (hn : l.Nodup) (hp : d.Perm l) (hs : d.Pairwise fun a b => ¬ cmpD b a < 0) : d = sortD l := by
  have hnd : d.Nodup := hp.nodup_iff.2 hn
  refine srt_ext ?_ (srt_sortD hn) fun x => by rw [mem_sortD, hp.mem_iff]
  refine List.Pairwise.imp_of_mem ?_ (List.pairwise_and_iff.2 ⟨hs, hnd⟩)
  rintro ⟨a1, a2⟩ ⟨b1, b2⟩ _ _ ⟨h1, h2⟩
  rw [cmpD_lt] at h1
  unfold ltDD
  simp only [ne_eq, Prod.mk.injEq] at h1 h2 ⊢
  omega
structure AUX where
  pre : MB
  seen : List Nat
  l : List (Int × Int)
  n : Nat
  xs : List Value
  o : Nat
  c : Nat
structure AUI (bs : MB) (y : AUX) : Prop where
  been : Been bs y.pre y.seen
  hn : y.n = y.l.length
  row : RowG dcl 2 y.xs y.o y.c y.l
  hl : y.l = (y.pre.filter opE).map (·.1)
theorem s_Auctions (x : HL) (N : Nat) (hx : HI x N) (hN : N ≤ 1000000) (rx : List Value) (ro rc : Nat) :
    Ctr Tryd.prog F_auct_House_Auctions [.ptr 0 0] (hoH x rx ro rc)
      (fun r H => ∃ xs o c, r = .sl 6 o (aucF x).length c ∧ H = hoH x rx ro rc ++ [.arr xs T_api_Dot] ∧ RowG dcl 2 xs o c (aucF x) ∧ (aucF x).length ≤ N) := by
  have hxl := hx.bl
  refine i_auct_House_Auctions.spec follows ?_
  refine VLoop.nil T_api_Dot [3] [] ⟨rfl, rfl⟩ ?_
  refine VLoop.mk AUX (fun y => [(3, .sl 7 y.o y.n y.c), (10, .ptr 6 0)]) (fun y => hoH x rx ro rc ++ [.iter (some 1) x.bc y.seen x.bc, .arr y.xs T_api_Dot]) (AUI x.bs) (fun y => x.bs.length - y.pre.length) ⟨[], [], [], 0, [], 0, 0⟩ [0, 1, 2, 3, 4, 5, 6, 7]
    ⟨⟨Been.nil _, rfl, ⟨Nat.le_refl _, by simp, by simp⟩, rfl⟩, rfl, rfl, rfl⟩ ?_
  rintro ⟨pre, seen, l, n, xs, o, c⟩ ⟨h1, hn, hr, hl⟩ g
  simp only at h1 hn hr hl
  refine And.intro ⟨fun e he => ?_, Nat.le_refl _⟩ (And.intro (fun hall => ?_) (fun e he hns => ?_))
  · obtain ⟨y, hy, rfl⟩ := List.mem_map.1 he
    exact hx.b.1 y hy
  · have hsub : ∀ y, y ∈ x.bs → y ∈ pre := fun y hy => h1.all hx.b.2 hy (hall _ (List.mem_map.2 ⟨y, hy, rfl⟩))
    have hpn : pre.Nodup := by have := h1.nd; rw [h1.eq] at this; exact nodup_of_map _ this
    have hp : pre.Perm x.bs := (List.perm_ext_iff_of_nodup hpn (nodup_of_map _ hx.bk)).2 fun a => ⟨h1.sub a, hsub a⟩
    have hpl := hp.length_eq
    have hll : l.length ≤ pre.length := by rw [hl, List.length_map]; exact List.length_filter_le _ _
    subst hn
    refine VCall.mk [7] (s_SortFunc l xs o c hr (by omega)) ⟨rfl, rfl, rfl⟩ ?_
    rintro _ _ ⟨d', xs', rfl, rfl, hp', hs, hr'⟩
    have hdl := hp'.length_eq
    have hbn : ((x.bs.filter opE).map (·.1)).Nodup := List.Sublist.nodup (List.Sublist.map _ List.filter_sublist) hx.bk
    have hd : d' = aucF x := cmp_srt hbn (hp'.trans (hl ▸ ((hp.filter _).map _))) hs
    subst hd
    have hlen2 : (aucF x).length ≤ N := by omega
    rw [← hdl]
    exact VRet.mk [0, 1, 2, 3, 4, 5, 7] (.sl 6 o (aucF x).length c) (hoH x rx ro rc ++ [.arr xs' T_api_Dot]) ⟨rfl, rfl, rfl⟩ ⟨xs', o, c, rfl, rfl, hr', hlen2⟩
  · obtain ⟨y, hy, rfl⟩ := List.mem_map.1 he
    have hns : y.2.2 ∉ seen := hns
    have hlen : x.bs.length - (pre ++ [y]).length < x.bs.length - pre.length := by classical exact h1.len hy hns
    have hmore := h1.more hy hns
    have hf : ∀ {b : Bool}, opE y = b → ((pre ++ [y]).filter opE).map (·.1) = bif b then (pre.filter opE).map (·.1) ++ [y.1] else (pre.filter opE).map (·.1) := by
      rintro b rfl
      rw [List.filter_append, List.map_append]
      cases hq : opE y <;> simp [hq]
    refine Exists.intro y.2.2 (Exists.intro (ent encD encST y) (And.intro (last_snoc _ _) (And.intro (find_ents hx.b.2 hy) (And.intro rfl ?_))))
    refine And.intro (fun k1 => ?_) (fun k1 => ?_)
    · have hnb : (n + 1) * 16 ≤ 1099511627776 := by
        have h3 : l.length ≤ pre.length := by rw [hl, List.length_map]; exact List.length_filter_le _ _
        omega
      refine And.intro ⟨⟨by rw [hn]; exact hr.1, hr.2.1, rfl⟩, ⟨rfl, rfl⟩, hnb⟩ ?_
      intro xs' o' c' hz
      exact Exists.intro ⟨pre ++ [y], seen ++ [y.2.2], l ++ [y.1], n + 1, xs', o', c'⟩ (Exists.intro [0, 1, 2, 3, 4, 5, 6, 11] (And.intro ⟨⟨hmore, by simp only; rw [hn, List.length_append]; rfl, RowG.snoc hr hn hz.1 hz.2.1 hz.2.2, by rw [hf (b := true) k1, hl]; rfl⟩, hlen⟩ ⟨rfl, rfl, rfl⟩))
    · exact Exists.intro ⟨pre ++ [y], seen ++ [y.2.2], l, n, xs, o, c⟩ (Exists.intro [0, 1, 2, 3, 4, 5, 6, 7] (And.intro ⟨⟨hmore, hn, hr, by rw [hf (b := false) k1]; exact hl⟩, hlen⟩ ⟨rfl, rfl, rfl⟩))
end Go.Proofs

namespace Go.Proofs
open Go Go.V Go.Lib
set_option maxRecDepth 100000
set_option linter.unusedVariables false

/-! ### The chapter's example -/
def vec7 (a b c d e f g : Int) : Nat → Int | 0 => a | 1 => b | 2 => c | 3 => d | 4 => e | 5 => f | _ => g
abbrev tVase : ByteArray := ByteArray.mk #[118, 97, 115, 101]
abbrev tAnn : ByteArray := ByteArray.mk #[65, 110, 110]
abbrev tann : ByteArray := ByteArray.mk #[97, 110, 110]
def stA : ST := ⟨5, 0, 1, vec7 0 0 0 0 0 0 0, 0, es, tAnn, 0, 0, 0, 0, 0, 0⟩
def stB : ST := ⟨1, 0, 1, vec7 0 0 0 0 0 0 0, 1, tVase, es, 0, 0, 0, 0, 0, 0⟩
def stC : ST := ⟨2, 0, 2, vec7 1 0 0 0 0 0 0, 1, es, tann, 0, 1, 0, 0, 5, 0⟩
def stD : ST := ⟨2, 0, 3, vec7 2 0 0 0 0 0 0, 1, es, tann, 0, 1, 0, 0, 7, 0⟩
def stE : ST := ⟨7, 0, 2, vec7 3 0 0 0 0 0 0, 1, es, es, 0, 1, 0, 0, 0, 0⟩
def sm1 : HL := doN HL.new stA
def sm2 : HL := blueN sm1 stB
def sm3 : HL := blueN sm2 stC
def sm4 : HL := blueN sm3 stD
def sm5 : HL := doN sm4 stE
theorem f1 : doE HL.new stA = 0 ∧ doB HL.new stA = true := by decide +kernel
theorem f2 : blueE sm1 stB = 0 := by decide +kernel
theorem f3 : blueE sm2 stC = 0 := by decide +kernel
theorem f4 : blueE sm3 stD = 0 := by decide +kernel
theorem f5 : doE sm4 stE = 0 ∧ doB sm4 stE = true := by decide +kernel
theorem f6 : bestF sm4.bs (bidsF sm4.bs (0, 1) sm4.v) = some (0, 3) := by decide +kernel
theorem f7 : (MP.get sm5.cs (0, 1)).isSome = true ∧ ((MP.get sm5.cs (0, 1)).getD zeroO).br = 0 ∧ ((MP.get sm5.cs (0, 1)).getD zeroO).bn = 3 ∧ ((MP.get sm5.cs (0, 1)).getD zeroO).user = tann ∧ ((MP.get sm5.cs (0, 1)).getD zeroO).amount = 7 := by decide +kernel
theorem f8 : openF sm5 (0, 3) = false := by decide +kernel
theorem f9 : sm5.red.length = 2 := by decide +kernel
theorem i1 : HI sm1 1 := HI.new.red f1.1
theorem i2 : HI sm2 2 := i1.blue (by decide)
theorem i3 : HI sm3 3 := i2.blue (by decide)
theorem i4 : HI sm4 4 := i3.blue (by decide)
theorem i5 : HI sm5 5 := i4.red f5.1
abbrev hoP (x : HL) (rx : List Value) (ro rc : Nat) : List SO := [.cells (vcells x.v ++ [.mp 2, .sl 6 ro x.red.length rc, .mp 3, .mp 4, .mp 5]) T_auct_House,
  .map (ents encD encST x.bs) x.bc, .map (ents encT encB x.us) x.uc, .map (ents encT encN x.ds) x.dc, .map (ents encD encO x.cs) x.cc, .arr rx T_auct_Step]
theorem row0 : RowG stcl 19 [] 0 0 ([] : List ST) := ⟨Nat.le_refl _, by simp, by simp⟩
theorem blue_red (x : HL) (s : ST) : (blueN x s).red = x.red := by unfold blueN; cases decide (blueE x s = 0) <;> rfl
theorem s_some (h : Nat → Option Obj) (hu : Uni h) (hc : CaseH h) : Ctr Tryd.prog F_rostrumlaw24_some [] [.heap h]
    (fun r H => ∃ rx ro rc, r = .ptr 1 0 ∧ H = .heap h :: hoP sm4 rx ro rc ∧ RowG stcl 19 rx ro rc sm4.red) := by
  refine i_rostrumlaw24_some.spec follows ?_
  refine VCall.mk [] s_New ⟨rfl, rfl, rfl⟩ ?_
  rintro _ _ ⟨rfl, rfl⟩
  refine VCall.mk [1, 2, 3, 4, 5, 6, 0] (s_Do h hu hc HL.new 0 HI.new (by omega) [] 0 0 row0 stA (by decide) (by decide)) ⟨rfl, rfl, rfl⟩ ?_
  rintro _ _ (⟨he, _⟩ | ⟨he, rfl, rx, ro, rc, hr, rfl⟩)
  · exact absurd f1.1 he
  refine VCall.mk [1, 2, 3, 4, 5, 7, 0] (s_Blue h hu sm1 i1.v rx ro rc stB (by decide) (by decide)) ⟨rfl, rfl, rfl⟩ ?_
  rintro _ _ ⟨rfl, rfl⟩
  refine VCall.mk [1, 2, 3, 4, 5, 7, 0] (s_Blue h hu sm2 i2.v rx ro rc stC (by decide) (by decide)) ⟨rfl, rfl, rfl⟩ ?_
  rintro _ _ ⟨rfl, rfl⟩
  refine VCall.mk [1, 2, 3, 4, 5, 7, 0] (s_Blue h hu sm3 i3.v rx ro rc stD (by decide) (by decide)) ⟨rfl, rfl, rfl⟩ ?_
  rintro _ _ ⟨rfl, rfl⟩
  refine And.intro (fun _ => ?_) (fun k => absurd k (by rw [f1.2]; decide))
  refine And.intro (fun _ => ?_) (fun k => absurd k (by decide))
  refine And.intro (fun _ => ?_) (fun k => absurd k (by rw [f2]; decide))
  refine And.intro (fun _ => ?_) (fun k => absurd k (by rw [f3]; decide))
  refine And.intro (fun k => absurd k (by rw [f4]; decide)) (fun _ => ?_)
  have e4 : sm4.red = (doN HL.new stA).red := by unfold sm4 sm3 sm2 sm1; rw [blue_red, blue_red, blue_red]
  exact VRet.mk [0, 1, 2, 3, 4, 5, 7] (.ptr 1 0) (.heap h :: hoP sm4 rx ro rc) ⟨rfl, rfl, rfl⟩ ⟨rx, ro, rc, rfl, rfl, by rw [e4]; exact hr⟩
theorem s_awake (h : Nat → Option Obj) (hu : Uni h) (hc : CaseH h) : Ctr Tryd.prog F_rostrumlaw24_awake [] [.heap h] (fun r H => r = bv true ∧ H = [.heap h]) := by
  refine i_rostrumlaw24_awake.spec follows ?_
  refine VCall.mk [0] (s_some h hu hc) ⟨rfl, rfl, rfl⟩ ?_
  rintro _ _ ⟨rx, ro, rc, rfl, rfl, hr⟩
  refine VCall.mk [1, 2, 3, 4, 5, 6] (s_Best sm4 i4.b i4.bk (by have := i4.bl; omega) rx ro rc (0, 1)) ⟨rfl, rfl, rfl⟩ ?_
  rintro _ _ ⟨rfl, rfl⟩
  rw [f6]
  refine VCall.mk [1, 2, 3, 4, 5, 6, 0] (s_Do h hu hc sm4 4 i4 (by omega) rx ro rc hr stE (by decide) (by decide)) ⟨rfl, rfl, rfl⟩ ?_
  rintro _ _ (⟨he, _⟩ | ⟨he, rfl, rx, ro, rc, hr, rfl⟩)
  · exact absurd f5.1 he
  refine VCall.mk [1, 2, 3, 4, 5, 8] (s_Winner sm5 rx ro rc (0, 1)) ⟨rfl, rfl, rfl⟩ ?_
  rintro _ _ ⟨rfl, rfl⟩
  refine And.intro (fun _ => ?_) (fun k => absurd k (by decide))
  refine And.intro (fun _ => ?_) (fun k => absurd k (by decide))
  refine And.intro (fun _ => ?_) (fun k => absurd k (by rw [f5.2]; decide))
  refine And.intro (fun _ => ?_) (fun k => absurd k (by decide))
  refine And.intro (fun _ => ?_) (fun k => absurd k (by rw [f7.1]; decide))
  refine And.intro (fun _ => ?_) (fun k => absurd k (by rw [f7.2.1, f7.2.2.1]; decide))
  refine And.intro (fun _ => ?_) (fun k => absurd k (by rw [f7.2.2.2.1, beq_self_eq_true]; decide))
  refine And.intro (fun _ => ?_) (fun k => absurd k (by rw [f7.2.2.2.2]; decide))
  refine VCall.mk [1, 2, 3, 4, 5, 8] (s_Open sm5 rx ro rc (0, 3)) ⟨rfl, rfl, rfl⟩ ?_
  rintro _ _ ⟨rfl, rfl⟩
  refine And.intro (fun _ => ?_) (fun k => absurd k (by rw [f8]; decide))
  refine VCall.mk [1, 2, 3, 4, 5, 8] (s_Reds sm5 rx ro rc) ⟨rfl, rfl, rfl⟩ ?_
  rintro _ _ ⟨rfl, rfl⟩
  exact VRet.mk [0] (bv (decide ((sm5.red.length : Int) = 2))) [.heap h] ⟨rfl, rfl, rfl⟩ ⟨by rw [f9]; rfl, rfl⟩
end Go.Proofs

namespace Go.Proofs
open Go Go.V Go.Lib
set_option maxRecDepth 100000
set_option linter.unusedVariables false

/-! ### A bid that the closing step had not seen -/
theorem goodT_amt {s : ST} {a : Int} (ha : 1 ≤ a ∧ a ≤ 1000000000) (hk : amntK s.kind = true) (hg : goodT s = true) : goodT { s with amount := a } = true := by
  have h1 : numB a 1 1000000000 (amntK s.kind) = true := by simp [numB, hk, ha]
  have h2 : headT { s with amount := a } = headT s := rfl
  have h3 : partT { s with amount := a } = (wordB s.name (decide (s.kind = 1)) && (wordB s.user (userK s.kind) && (pointB s.ar s.an (auctK s.kind) && (pointB s.br s.bn (decide (s.kind = 3)) && (numB a 1 1000000000 (amntK s.kind) && numB s.funds 0 1125899906842624 (decide (s.kind = 6))))))) := rfl
  rw [h1] at h3
  unfold goodT at hg ⊢
  rw [h2, h3]
  unfold partT at hg
  show (headT s && ((redT s || decide (s.seen s.rep.toNat = s.n - 1)) && _)) = true
  revert hg
  generalize headT s = q0
  generalize (redT s || decide (s.seen s.rep.toNat = s.n - 1)) = q1
  generalize wordB s.name (decide (s.kind = 1)) = q2
  generalize wordB s.user (userK s.kind) = q3
  generalize pointB s.ar s.an (auctK s.kind) = q4
  generalize pointB s.br s.bn (decide (s.kind = 3)) = q5
  generalize numB s.amount 1 1000000000 (amntK s.kind) = q6
  generalize numB s.funds 0 1125899906842624 (decide (s.kind = 6)) = q7
  revert q0 q1 q2 q3 q4 q5 q6 q7
  decide
theorem blueE_amt {x : HL} {s : ST} {a : Int} (ha : 1 ≤ a ∧ a ≤ 1000000000) (hk : amntK s.kind = true) (hb : blueE x s = 0) : blueE x { s with amount := a } = 0 := by
  have hg := (blueE_0 hb).1
  have hg2 := goodT_amt ha hk hg
  have : blueE x { s with amount := a } = blueE x s := by
    unfold blueE
    rw [hg, hg2]
    rfl
  rw [this, hb]
abbrev tU : ByteArray := ByteArray.mk #[117]
def rA : ST := ⟨5, 0, 1, vec7 0 0 0 0 0 0 0, 0, es, tU, 0, 0, 0, 0, 0, 0⟩
def rB : ST := ⟨1, 0, 1, vec7 0 0 0 0 0 0 0, 1, tVase, es, 0, 0, 0, 0, 0, 0⟩
def rC (a : Int) : ST := ⟨2, 0, 2, vec7 1 0 0 0 0 0 0, 1, es, tU, 0, 1, 0, 0, a, 0⟩
def rL (a : Int) : ST := ⟨2, 1, 1, vec7 1 0 0 0 0 0 0, 1, es, tU, 0, 1, 0, 0, a, 0⟩
def rE : ST := ⟨7, 0, 2, vec7 2 0 0 0 0 0 0, 1, es, es, 0, 1, 0, 0, 0, 0⟩
def w1 : HL := doN HL.new rA
def w2 : HL := blueN w1 rB
/-- A house that took a blue step. -/
def tookN (x : HL) (s : ST) : HL := { x with v := upv x.v s.rep.toNat (x.v s.rep.toNat + 1), bs := MP.put x.bs (s.rep, s.n) s x.bc, bc := if (MP.get x.bs (s.rep, s.n)).isSome then x.bc else x.bc + 1 }
def w3 (a : Int) : HL := tookN w2 (rC a)
def w4 (a l : Int) : HL := tookN (w3 a) (rL l)
def w5 (a l : Int) : HL := csD (w4 a l) rE
def u4 (a : Int) : HL := csD (w3 a) rE
def u5 (a l : Int) : HL := tookN (u4 a) (rL l)
theorem j1 : doE HL.new rA = 0 := by decide +kernel
theorem j2 : blueE w1 rB = 0 := by decide +kernel
theorem j3' : blueE w2 (rC 1) = 0 := by decide +kernel
theorem j3 {a : Int} (ha : 1 ≤ a ∧ a ≤ 1000000000) : blueE w2 (rC a) = 0 := blueE_amt (s := rC 1) ha rfl j3'
theorem j3n {a : Int} (ha : 1 ≤ a ∧ a ≤ 1000000000) : blueN w2 (rC a) = w3 a := blueN_0 (j3 ha)
theorem gL1 : goodT (rL 1) = true := by decide +kernel
theorem j4 {a l : Int} (hl : 1 ≤ l ∧ l ≤ 1000000000) : blueE (w3 a) (rL l) = 0 := by
  have h1 : goodT (rL l) = true := goodT_amt (s := rL 1) hl rfl gL1
  have h2 : blueE (w3 a) (rL 1) = 0 := by
    unfold blueE
    rw [gL1]
    kernel_rfl
  exact blueE_amt (s := rL 1) hl rfl h2
theorem j5 (a l : Int) : doE (w4 a l) rE = 0 ∧ mayEnd (w4 a l) rE = true := ⟨by kernel_rfl, by kernel_rfl⟩
theorem j5u (a : Int) : doE (w3 a) rE = 0 ∧ mayEnd (w3 a) rE = true := ⟨by kernel_rfl, by kernel_rfl⟩
theorem j6 {a l : Int} (hl : 1 ≤ l ∧ l ≤ 1000000000) : blueE (u4 a) (rL l) = 0 := by
  have h2 : blueE (u4 a) (rL 1) = 0 := by
    unfold blueE
    rw [gL1]
    kernel_rfl
  exact blueE_amt (s := rL 1) hl rfl h2
theorem j7 (a l : Int) : MP.get (w5 a l).cs (0, 1) = some ⟨0, 2, tU, a⟩ := by kernel_rfl
theorem j8 (a l : Int) : MP.get (u5 a l).cs (0, 1) = some ⟨0, 2, tU, a⟩ := by kernel_rfl
theorem j9 (a l : Int) : bidsF (w5 a l).bs (0, 1) (w5 a l).v = [(0, 2), (1, 1)] := by kernel_rfl
theorem j10 (a l : Int) : bidsF (u5 a l).bs (0, 1) (u5 a l).v = [(0, 2), (1, 1)] := by kernel_rfl
theorem jw3n {a : Int} (ha : 1 ≤ a ∧ a ≤ 1000000000) : HI (w3 a) 3 := j3n ha ▸ (((HI.new.red j1).blue (s := rB) (by decide)).blue (s := rC a) (show (1 : Nat) ≤ 100000000 by omega) : HI (blueN w2 (rC a)) 3)
theorem red3 (a : Int) : (w3 a).red = w1.red := blue_red w1 rB
theorem e5 (a l : Int) : doN (w4 a l) rE = w5 a l ∧ doB (w4 a l) rE = true := ⟨by kernel_rfl, by kernel_rfl⟩
theorem e5u (a : Int) : doN (w3 a) rE = u4 a ∧ doB (w3 a) rE = true := ⟨by kernel_rfl, by kernel_rfl⟩
theorem s_AuctVoid (h : Nat → Option Obj) (hu : Uni h) (hc : CaseH h) (a l : Int) (ah : Bool) : Ctr Tryd.prog F_rostrumlaw24_AuctVoid [iv a, iv l, bv ah] [.heap h] (fun r H => r = bv true ∧ H = [.heap h]) := by
  refine i_rostrumlaw24_AuctVoid.spec follows ?_
  refine VCall.mk [0] (s_awake h hu hc) ⟨rfl, rfl, rfl⟩ ?_
  rintro _ _ ⟨rfl, rfl⟩
  refine And.intro (fun k => absurd k (by decide)) (fun _ => ?_)
  have fin : ∀ l : List SO, VRet 1 (bv true) (.heap h :: l) (fun r H => r = bv true ∧ H = [.heap h]) := fun l => VRet.mk [0] (bv true) [.heap h] ⟨rfl, rfl, rfl⟩ ⟨rfl, rfl⟩
  refine And.intro (fun k1 => ?_) (fun k1 => fin _)
  refine And.intro (fun k2 => ?_) (fun k2 => fin _)
  refine And.intro (fun k3 => ?_) (fun k3 => fin _)
  refine And.intro (fun k4 => fin _) (fun k4 => ?_)
  have ha : 1 ≤ a ∧ a ≤ 1000000000 := by
    have k1 := of_decide_eq_false k1
    have k2 := of_decide_eq_false k2
    omega
  have hl : 1 ≤ l ∧ l ≤ 1000000000 := by
    have k3 := of_decide_eq_false k3
    have k4 := of_decide_eq_false k4
    omega
  have I1 : HI w1 1 := HI.new.red j1
  have I2 : HI w2 2 := I1.blue (by decide)
  have I3 : HI (w3 a) 3 := jw3n ha
  refine VCall.mk [] s_New ⟨rfl, rfl, rfl⟩ ?_
  rintro _ _ ⟨rfl, rfl⟩
  refine VCall.mk [1, 2, 3, 4, 5, 6, 0] (s_Do h hu hc HL.new 0 HI.new (by omega) [] 0 0 row0 rA (by decide) (by decide)) ⟨rfl, rfl, rfl⟩ ?_
  rintro _ _ (⟨he, _⟩ | ⟨he, rfl, rx, ro, rc, hr, rfl⟩)
  · exact absurd j1 he
  refine VCall.mk [1, 2, 3, 4, 5, 8, 0] (s_Blue h hu w1 I1.v rx ro rc rB (by decide) (by decide)) ⟨rfl, rfl, rfl⟩ ?_
  rintro _ _ ⟨rfl, rfl⟩
  have hB := s_Blue h hu w2 I2.v rx ro rc (rC a) (show (0 : Nat) ≤ _ by omega) (show (1 : Nat) ≤ _ by omega)
  rw [j3n ha] at hB
  refine VCall.mk [1, 2, 3, 4, 5, 8, 0] hB ⟨rfl, rfl, rfl⟩ ?_
  rintro _ _ ⟨rfl, rfl⟩
  have hr3 : RowG stcl 19 rx ro rc (w3 a).red := by rw [red3]; exact hr
  cases ah with
  | true =>
    refine And.intro (fun _ => ?_) (fun k => absurd k (by decide))
    have hB := s_Blue h hu (w3 a) I3.v rx ro rc (rL l) (show (0 : Nat) ≤ _ by omega) (show (1 : Nat) ≤ _ by omega)
    rw [j4 hl, blueN_0 (j4 hl)] at hB
    refine VCall.mk [1, 2, 3, 4, 5, 8, 0] hB ⟨rfl, rfl, rfl⟩ ?_
    rintro _ _ ⟨rfl, rfl⟩
    refine And.intro (fun k => absurd k (by decide)) (fun _ => ?_)
    have e4 : blueN (w3 a) (rL l) = w4 a l := blueN_0 (j4 hl)
    have I4 : HI (w4 a l) 4 := e4 ▸ I3.blue (s := rL l) (show (1 : Nat) ≤ _ by omega)
    have hD := s_Do h hu hc (w4 a l) 4 I4 (by omega) rx ro rc hr3 rE (by decide) (by decide)
    unfold DoPost at hD
    rw [(e5 a l).1, (e5 a l).2] at hD
    refine VCall.mk [1, 2, 3, 4, 5, 8, 0] hD ⟨rfl, rfl, rfl⟩ ?_
    rintro _ _ (⟨he, _⟩ | ⟨he, rfl, rx, ro, rc, hr, rfl⟩)
    · exact absurd (j5 a l).1 he
    refine And.intro (fun k => absurd k (by decide)) (fun _ => ?_)
    have hW := s_Winner (w5 a l) rx ro rc (0, 1)
    rw [j7] at hW
    simp only [Option.getD_some, Option.isSome_some] at hW
    refine VCall.mk [1, 2, 3, 4, 5, 10] hW ⟨rfl, rfl, rfl⟩ ?_
    rintro _ _ ⟨rfl, rfl⟩
    refine And.intro (fun _ => ?_) (fun k => absurd k (by decide))
    refine And.intro (fun _ => ?_) (fun k => absurd k (by decide))
    refine And.intro (fun _ => ?_) (fun k => absurd k (by decide))
    refine And.intro (fun _ => ?_) (fun k => absurd k (by rw [beq_self_eq_true]; decide))
    refine And.intro (fun _ => ?_) (fun k => absurd k (by rw [show decide (a = a) = true from decide_eq_true rfl]; decide))
    refine And.intro (fun _ => ?_) (fun k => absurd k (by decide))
    have I5 : HI (w5 a l) 5 := (e5 a l).1 ▸ I4.red he
    have hB := s_Bids (w5 a l) I5.b I5.bk (by have := I5.bl; omega) rx ro rc (0, 1)
    rw [j9] at hB
    refine VCall.mk [1, 2, 3, 4, 5, 10] hB ⟨rfl, rfl, rfl⟩ ?_
    rintro _ _ ⟨_, _, _, rfl, rfl, _⟩
    exact fin _
  | false =>
    refine And.intro (fun k => absurd k (by decide)) (fun _ => ?_)
    have hD := s_Do h hu hc (w3 a) 3 I3 (by omega) rx ro rc hr3 rE (by decide) (by decide)
    unfold DoPost at hD
    rw [(e5u a).1, (e5u a).2] at hD
    refine VCall.mk [1, 2, 3, 4, 5, 8, 0] hD ⟨rfl, rfl, rfl⟩ ?_
    rintro _ _ (⟨he, _⟩ | ⟨he, rfl, rx, ro, rc, hr, rfl⟩)
    · exact absurd (j5u a).1 he
    have I4 : HI (u4 a) 4 := (e5u a).1 ▸ I3.red he
    refine And.intro (fun _ => ?_) (fun k => absurd k (by decide))
    have hB := s_Blue h hu (u4 a) I4.v rx ro rc (rL l) (show (0 : Nat) ≤ _ by omega) (show (1 : Nat) ≤ _ by omega)
    rw [j6 hl, blueN_0 (j6 hl)] at hB
    refine VCall.mk [1, 2, 3, 4, 5, 10, 0] hB ⟨rfl, rfl, rfl⟩ ?_
    rintro _ _ ⟨rfl, rfl⟩
    refine And.intro (fun k => absurd k (by decide)) (fun _ => ?_)
    have hW := s_Winner (u5 a l) rx ro rc (0, 1)
    rw [j8] at hW
    simp only [Option.getD_some, Option.isSome_some] at hW
    refine VCall.mk [1, 2, 3, 4, 5, 10] hW ⟨rfl, rfl, rfl⟩ ?_
    rintro _ _ ⟨rfl, rfl⟩
    refine And.intro (fun _ => ?_) (fun k => absurd k (by decide))
    refine And.intro (fun _ => ?_) (fun k => absurd k (by decide))
    refine And.intro (fun _ => ?_) (fun k => absurd k (by decide))
    refine And.intro (fun _ => ?_) (fun k => absurd k (by rw [beq_self_eq_true]; decide))
    refine And.intro (fun _ => ?_) (fun k => absurd k (by rw [show decide (a = a) = true from decide_eq_true rfl]; decide))
    refine And.intro (fun _ => ?_) (fun k => absurd k (by decide))
    have e5 : blueN (u4 a) (rL l) = u5 a l := blueN_0 (j6 hl)
    have I5 : HI (u5 a l) 5 := e5 ▸ I4.blue (s := rL l) (show (1 : Nat) ≤ _ by omega)
    have hB := s_Bids (u5 a l) I5.b I5.bk (by have := I5.bl; omega) rx ro rc (0, 1)
    rw [j10] at hB
    refine VCall.mk [1, 2, 3, 4, 5, 10] hB ⟨rfl, rfl, rfl⟩ ?_
    rintro _ _ ⟨_, _, _, rfl, rfl, _⟩
    exact fin _
end Go.Proofs

namespace Go.Proofs
open Go Go.V Go.Lib
set_option maxRecDepth 100000
set_option linter.unusedVariables false

/-! ### The best bid -/
theorem put_new {K V : Type} [DecidableEq K] : ∀ {ms : List (K × V × Nat)} {k : K} (v : V) (c : Nat), MP.get ms k = none → MP.put ms k v c = ms ++ [(k, v, c)]
  | [], k, v, c, _ => rfl
  | x :: ms, k, v, c, h => by
    rw [get_cons] at h
    split at h
    · cases h
    · rename_i hk
      rw [MP.put, if_neg hk, put_new v c h]; rfl
def oT : ST := ⟨1, 0, 1, vec7 0 0 0 0 0 0 0, 0, tVase, es, 0, 0, 0, 0, 0, 0⟩
def bidT (n a : Int) : ST := ⟨2, 0, n + 1, vec7 n 0 0 0 0 0 0, 0, es, tU, 0, 1, 0, 0, a, 0⟩
def canT (n b : Int) : ST := ⟨3, 0, n + 1, vec7 n 0 0 0 0 0 0, 0, es, es, 0, 0, 0, b, 0, 0⟩
theorem wU : wordB tU true = true := by decide +kernel
theorem wE : wordB es false = true := by decide +kernel
theorem vgood_iff {v : Nat → Int} : vgoodB v = true ↔ ∀ i, i < 7 → 0 ≤ v i ∧ v i ≤ 1099511627776 := by
  simp [vgoodB]
theorem vec_le {n : Int} {v : Nat → Int} (h0 : n ≤ v 0) (hz : ∀ i, i < 7 → 0 ≤ v i) : leB (vec7 n 0 0 0 0 0 0) v = true := by
  rw [leB_iff]
  intro i hi
  match i, hi with
  | 0, _ => exact h0
  | 1, hi => exact hz 1 hi | 2, hi => exact hz 2 hi | 3, hi => exact hz 3 hi | 4, hi => exact hz 4 hi | 5, hi => exact hz 5 hi | 6, hi => exact hz 6 hi
theorem vec_good {n : Int} (h : 0 ≤ n ∧ n ≤ 1099511627776) : vgoodB (vec7 n 0 0 0 0 0 0) = true := by
  rw [vgood_iff]
  intro i hi
  match i, hi with
  | 0, _ => exact h
  | 1, _ => exact ⟨Int.le_refl _, by show (0 : Int) ≤ _; omega⟩
  | 2, _ => exact ⟨Int.le_refl _, by show (0 : Int) ≤ _; omega⟩
  | 3, _ => exact ⟨Int.le_refl _, by show (0 : Int) ≤ _; omega⟩
  | 4, _ => exact ⟨Int.le_refl _, by show (0 : Int) ≤ _; omega⟩
  | 5, _ => exact ⟨Int.le_refl _, by show (0 : Int) ≤ _; omega⟩
  | 6, _ => exact ⟨Int.le_refl _, by show (0 : Int) ≤ _; omega⟩
theorem good_bid {n a : Int} (hn : 0 ≤ n ∧ n ≤ 1000) (ha : 1 ≤ a ∧ a ≤ 1000000000) : goodT (bidT n a) = true := by
  have h1 : headT (bidT n a) = true := by
    show (decide ((1 : Int) ≤ 2) && (decide ((2 : Int) ≤ 7) && (isDot 0 (n + 1) && (vgoodB (vec7 n 0 0 0 0 0 0) && (decide ((0 : Int) ≤ 0) && decide ((0 : Int) ≤ 1000)))))) = true
    rw [vec_good (show 0 ≤ n ∧ n ≤ 1099511627776 by omega), show isDot 0 (n + 1) = true by simp [isDot, isRep]; omega]
    decide
  have h2 : partT (bidT n a) = true := by
    show (wordB es false && (wordB tU true && (pointB 0 1 true && (pointB 0 0 false && (numB a 1 1000000000 true && numB 0 0 1125899906842624 false))))) = true
    rw [wU, wE, show numB a 1 1000000000 true = true by simp [numB, ha]]
    decide
  rw [goodT, h1, h2]
  show (true && ((false || decide (n = n + 1 - 1)) && true)) = true
  rw [show decide (n = n + 1 - 1) = true from decide_eq_true (by omega)]; rfl
theorem good_can {n b : Int} (hn : 0 ≤ n ∧ n ≤ 1000) (hb : 1 ≤ b ∧ b ≤ 1000) : goodT (canT n b) = true := by
  have h1 : headT (canT n b) = true := by
    show (decide ((1 : Int) ≤ 3) && (decide ((3 : Int) ≤ 7) && (isDot 0 (n + 1) && (vgoodB (vec7 n 0 0 0 0 0 0) && (decide ((0 : Int) ≤ 0) && decide ((0 : Int) ≤ 1000)))))) = true
    rw [vec_good (show 0 ≤ n ∧ n ≤ 1099511627776 by omega), show isDot 0 (n + 1) = true by simp [isDot, isRep]; omega]
    decide
  have h2 : partT (canT n b) = true := by
    show (wordB es false && (wordB es false && (pointB 0 0 false && (pointB 0 b true && (numB 0 1 1000000000 false && numB 0 0 1125899906842624 false))))) = true
    rw [wE, show pointB 0 b true = true by simp [pointB, isDot, isRep]; omega]
    decide
  rw [goodT, h1, h2]
  show (true && ((false || decide (n = n + 1 - 1)) && true)) = true
  rw [show decide (n = n + 1 - 1) = true from decide_eq_true (by omega)]; rfl
def Live (bs : MB) (d : Int × Int) : Prop := (∃ e, e ∈ bs ∧ e.1 = d ∧ e.2.1.kind = 2 ∧ e.2.1.ar = 0 ∧ e.2.1.an = 1) ∧ ¬ ∃ e, e ∈ bs ∧ e.2.1.kind = 3 ∧ e.2.1.br = d.1 ∧ e.2.1.bn = d.2
structure BS (x : HL) (N : Nat) (best : Int) (id : Int × Int) : Prop where
  hx : HI x N
  v0 : 1 ≤ x.v 0 ∧ x.v 0 ≤ N
  red : x.red = []
  old : ∀ e, e ∈ x.bs → e.2.1.kind = 3 → e.2.1.br = 0 ∧ e.2.1.bn ≤ x.v 0
  all0 : ∀ e, e ∈ x.bs → e.1.1 = 0 ∧ e.1.2 ≤ x.v 0
  is : (best = 0 ∧ id = (0, 0) ∧ ∀ d, ¬ Live x.bs d) ∨ (1 ≤ best ∧ Live x.bs id ∧ amt x.bs id = best ∧ ∀ d, Live x.bs d → ¬ gtB x.bs d id)
theorem Live.le {x : HL} {N : Nat} {best : Int} {id d : Int × Int} (h : BS x N best id) (hl : Live x.bs d) : d.1 = 0 ∧ d.2 ≤ x.v 0 := by
  obtain ⟨⟨e, h1, rfl, _⟩, _⟩ := hl
  exact h.all0 e h1
theorem blue_ok {x : HL} {N : Nat} {best : Int} {id : Int × Int} (h : BS x N best id) {s : ST} (hg : goodT s = true) (hr : s.rep = 0) (hn : s.n = x.v 0 + 1) (hs : s.seen = vec7 (x.v 0) 0 0 0 0 0 0) (hk : redT s = false) (hd : s.reds = 0) : blueE x s = 0 := by
  have h1 : has x.v s.rep s.n = false := by
    rw [Bool.eq_false_iff, Ne, hasI, hr, hn]
    show ¬ ((0 ≤ (0 : Int) ∧ (0 : Int) < 7) ∧ 1 ≤ x.v 0 + 1 ∧ x.v 0 + 1 ≤ x.v 0)
    omega
  have h2 : leB s.seen x.v = true := by
    rw [hs]
    exact vec_le (Int.le_refl _) fun i hi => (h.hx.v i hi).1
  unfold blueE
  rw [hg, hk, h1, h2, hd, h.red, show decide (s.n = x.v s.rep.toNat + 1) = true from decide_eq_true (by rw [hr]; exact hn)]
  rfl
theorem took_v0 {x : HL} {s : ST} (hr : s.rep = 0) : (tookN x s).v 0 = x.v 0 + 1 := by
  show upv x.v s.rep.toNat (x.v s.rep.toNat + 1) 0 = _
  rw [hr]; rfl
theorem took_bs {x : HL} {N : Nat} (hx : HI x N) {s : ST} (hb : blueE x s = 0) : (tookN x s).bs = x.bs ++ [((s.rep, s.n), s, x.bc)] ∧ MP.get x.bs (s.rep, s.n) = none := by
  have hf := hx.fresh (blueE_0 hb).2.2.1
  exact ⟨put_new _ _ hf, hf⟩
theorem took_hi {x : HL} {N : Nat} (hx : HI x N) {s : ST} (hb : blueE x s = 0) (hz : s.user.size ≤ 100000000) : HI (tookN x s) (N + 1) := by
  have e : blueN x s = tookN x s := blueN_0 hb
  exact e ▸ hx.blue hz
theorem amt_took {x : HL} {s : ST} {d : Int × Int} (h : d ≠ (s.rep, s.n)) : amt (tookN x s).bs d = amt x.bs d := by
  show ((MP.get (MP.put x.bs (s.rep, s.n) s x.bc) d).getD zeroT').amount = _
  rw [get_put, if_neg h]; rfl
theorem amt_new {x : HL} {s : ST} : amt (tookN x s).bs (s.rep, s.n) = s.amount := by
  show ((MP.get (MP.put x.bs (s.rep, s.n) s x.bc) (s.rep, s.n)).getD zeroT').amount = _
  rw [get_put, if_pos rfl]; rfl
theorem gtB_eq {bs bs' : MB} {a b : Int × Int} (h1 : amt bs' a = amt bs a) (h2 : amt bs' b = amt bs b) : gtB bs' a b ↔ gtB bs a b := by unfold gtB; rw [h1, h2]
theorem BS.bid {x : HL} {N : Nat} {best : Int} {id : Int × Int} (h : BS x N best id) (hN : N ≤ 100) {a : Int} (ha : 1 ≤ a ∧ a ≤ 1000000000) :
    blueE x (bidT (x.v 0) a) = 0 ∧ HI (tookN x (bidT (x.v 0) a)) (N + 1) ∧ (∀ d, Live (tookN x (bidT (x.v 0) a)).bs d ↔ Live x.bs d ∨ d = (0, x.v 0 + 1)) := by
  have hv := h.v0
  have hb : blueE x (bidT (x.v 0) a) = 0 := blue_ok h (good_bid (by omega) ha) rfl rfl rfl rfl rfl
  obtain ⟨e1, e2⟩ := took_bs h.hx hb
  refine ⟨hb, took_hi h.hx hb (show (1 : Nat) ≤ _ by omega), fun d => ?_⟩
  rw [e1]
  constructor
  · rintro ⟨⟨e, q1, q2, q3⟩, q4⟩
    rcases List.mem_append.1 q1 with q1 | q1
    · exact .inl ⟨⟨e, q1, q2, q3⟩, fun ⟨e', z1, z2⟩ => q4 ⟨e', List.mem_append.2 (.inl z1), z2⟩⟩
    · have q1 := List.mem_singleton.1 q1
      subst q1
      exact .inr q2.symm
  · rintro (⟨⟨e, q1, q2, q3⟩, q4⟩ | q)
    · refine ⟨⟨e, List.mem_append.2 (.inl q1), q2, q3⟩, fun ⟨e', z1, z2⟩ => ?_⟩
      rcases List.mem_append.1 z1 with z1 | z1
      · exact q4 ⟨e', z1, z2⟩
      · have z1 := List.mem_singleton.1 z1
        subst z1
        exact absurd z2.1 (by show ¬ (2 : Int) = 3; decide)
    · subst q
      refine ⟨⟨_, List.mem_append.2 (.inr (List.mem_singleton.2 rfl)), rfl, rfl, rfl, rfl⟩, fun ⟨e', z1, z2⟩ => ?_⟩
      rcases List.mem_append.1 z1 with z1 | z1
      · have := (h.old e' z1 z2.1).2
        have z3 : e'.2.1.bn = x.v 0 + 1 := z2.2.2
        omega
      · have z1 := List.mem_singleton.1 z1
        subst z1
        exact absurd z2.1 (by show ¬ (2 : Int) = 3; decide)
theorem BS.keep {x : HL} {N : Nat} {best : Int} {id : Int × Int} (h : BS x N best id) (hN : N ≤ 100) {a : Int} (ha : 1 ≤ a ∧ a ≤ 1000000000) :
    BS (tookN x (bidT (x.v 0) a)) (N + 1) (if best < a then a else best) (if best < a then (0, x.v 0 + 1) else id) := by
  obtain ⟨hb, hh, hl⟩ := h.bid hN ha
  have hv := h.v0
  have e0 : (tookN x (bidT (x.v 0) a)).v 0 = x.v 0 + 1 := took_v0 rfl
  obtain ⟨e1, e2⟩ := took_bs h.hx hb
  have hne : ∀ d, Live x.bs d → d ≠ (0, x.v 0 + 1) := fun d hd e => by
    have := hd.le h
    rw [e] at this
    have : x.v 0 + 1 ≤ x.v 0 := this.2
    omega
  have hold : ∀ d, Live x.bs d → amt (tookN x (bidT (x.v 0) a)).bs d = amt x.bs d := fun d hd => amt_took (hne d hd)
  have hnew : amt (tookN x (bidT (x.v 0) a)).bs (0, x.v 0 + 1) = a := amt_new
  refine ⟨hh, by rw [e0]; omega, h.red, fun e he hk => ?_, fun e he => ?_, ?_⟩
  · rw [e1] at he
    rcases List.mem_append.1 he with he | he
    · have := h.old e he hk; rw [e0]; omega
    · have he := List.mem_singleton.1 he
      subst he
      exact absurd hk (by show ¬ (2 : Int) = 3; decide)
  · rw [e1] at he
    rcases List.mem_append.1 he with he | he
    · have := h.all0 e he; rw [e0]; omega
    · have he := List.mem_singleton.1 he
      subst he
      rw [e0]
      exact ⟨rfl, Int.le_refl _⟩
  · by_cases hq : best < a
    · rw [if_pos hq, if_pos hq]
      refine .inr ⟨ha.1, (hl _).2 (.inr rfl), hnew, fun d hd => ?_⟩
      rcases (hl d).1 hd with k | k
      · intro hg
        rw [gtB, hold d k, hnew] at hg
        rcases h.is with ⟨_, _, i3⟩ | ⟨i1, i2, i3, i4⟩
        · exact i3 d k
        · have := i4 d k
          rw [gtB, i3] at this
          omega
      · subst k; exact gtB_irr
    · rw [if_neg hq, if_neg hq]
      rcases h.is with ⟨i1, _, _⟩ | ⟨i1, i2, i3, i4⟩
      · omega
      · refine .inr ⟨i1, (hl _).2 (.inl i2), by rw [hold _ i2, i3], fun d hd => ?_⟩
        rcases (hl d).1 hd with k | k
        · rw [gtB_eq (hold d k) (hold id i2)]; exact i4 d k
        · subst k
          rw [gtB, hnew, hold id i2, i3]
          have := i2.le h
          unfold ltDD
          simp only
          omega
theorem BS.gone {x : HL} {N : Nat} {best : Int} {id : Int × Int} (h : BS x N best id) (hN : N ≤ 100) {a : Int} (ha : 1 ≤ a ∧ a ≤ 1000000000) :
    blueE (tookN x (bidT (x.v 0) a)) (canT (x.v 0 + 1) (x.v 0 + 1)) = 0 ∧ BS (tookN (tookN x (bidT (x.v 0) a)) (canT (x.v 0 + 1) (x.v 0 + 1))) (N + 2) best id := by
  obtain ⟨hb, hh, hl⟩ := h.bid hN ha
  have hk := h.keep hN ha
  have hv := h.v0
  have e0 : (tookN x (bidT (x.v 0) a)).v 0 = x.v 0 + 1 := took_v0 rfl
  have hb2 : blueE (tookN x (bidT (x.v 0) a)) (canT (x.v 0 + 1) (x.v 0 + 1)) = 0 := by
    refine blue_ok hk (good_can (by omega) (by omega)) rfl ?_ ?_ rfl rfl
    · rw [e0]; rfl
    · rw [e0]; rfl
  refine ⟨hb2, ?_⟩
  have hh2 := took_hi hh hb2 (show (0 : Nat) ≤ _ by omega)
  obtain ⟨e1, e2⟩ := took_bs h.hx hb
  obtain ⟨f1, f2⟩ := took_bs hh hb2
  have f0 : (tookN (tookN x (bidT (x.v 0) a)) (canT (x.v 0 + 1) (x.v 0 + 1))).v 0 = x.v 0 + 1 + 1 := (took_v0 rfl).trans (by rw [e0])
  have hne : ∀ d, Live x.bs d → d ≠ (0, x.v 0 + 1) := fun d hd e => by
    have := hd.le h
    rw [e] at this
    have : x.v 0 + 1 ≤ x.v 0 := this.2
    omega
  have hne2 : ∀ d, Live x.bs d → d ≠ (0, x.v 0 + 1 + 1) := fun d hd e => by
    have := hd.le h
    rw [e] at this
    have : x.v 0 + 1 + 1 ≤ x.v 0 := this.2
    omega
  have hl2 : ∀ d, Live (tookN (tookN x (bidT (x.v 0) a)) (canT (x.v 0 + 1) (x.v 0 + 1))).bs d ↔ Live x.bs d := fun d => by
    have hcan : Live (tookN (tookN x (bidT (x.v 0) a)) (canT (x.v 0 + 1) (x.v 0 + 1))).bs d ↔ Live (tookN x (bidT (x.v 0) a)).bs d ∧ d ≠ (0, x.v 0 + 1) := by
      rw [f1]
      constructor
      · rintro ⟨⟨e, q1, q2, q3⟩, q4⟩
        rcases List.mem_append.1 q1 with q1 | q1
        · refine ⟨⟨⟨e, q1, q2, q3⟩, fun ⟨e', z1, z2⟩ => q4 ⟨e', List.mem_append.2 (.inl z1), z2⟩⟩, fun hd => ?_⟩
          subst hd
          exact q4 ⟨_, List.mem_append.2 (.inr (List.mem_singleton.2 rfl)), rfl, rfl, rfl⟩
        · have q1 := List.mem_singleton.1 q1
          subst q1
          exact absurd q3.1 (by show ¬ (3 : Int) = 2; decide)
      · rintro ⟨⟨⟨e, q1, q2, q3⟩, q4⟩, hd⟩
        refine ⟨⟨e, List.mem_append.2 (.inl q1), q2, q3⟩, fun ⟨e', z1, z2⟩ => ?_⟩
        rcases List.mem_append.1 z1 with z1 | z1
        · exact q4 ⟨e', z1, z2⟩
        · have z1 := List.mem_singleton.1 z1
          subst z1
          have z3 : (0 : Int) = d.1 := z2.2.1
          have z4 : x.v 0 + 1 = d.2 := z2.2.2
          exact hd (Prod.ext z3.symm z4.symm)
    rw [hcan, hl]
    constructor
    · rintro ⟨k | k, hd⟩
      · exact k
      · exact absurd k hd
    · intro k
      exact ⟨.inl k, hne d k⟩
  have hold : ∀ d, Live x.bs d → amt (tookN (tookN x (bidT (x.v 0) a)) (canT (x.v 0 + 1) (x.v 0 + 1))).bs d = amt x.bs d := fun d hd => by
    rw [amt_took (hne2 d hd), amt_took (hne d hd)]
  refine ⟨hh2, by rw [f0]; omega, h.red, fun e he hk => ?_, fun e he => ?_, ?_⟩
  · rw [f1, e1] at he
    rw [f0]
    rcases List.mem_append.1 he with he | he
    · rcases List.mem_append.1 he with he | he
      · have := h.old e he hk; omega
      · have he := List.mem_singleton.1 he
        subst he
        exact absurd hk (by show ¬ (2 : Int) = 3; decide)
    · have he := List.mem_singleton.1 he
      subst he
      show (0 : Int) = 0 ∧ x.v 0 + 1 ≤ x.v 0 + 1 + 1
      omega
  · rw [f1, e1] at he
    rw [f0]
    rcases List.mem_append.1 he with he | he
    · rcases List.mem_append.1 he with he | he
      · have := h.all0 e he; omega
      · have he := List.mem_singleton.1 he
        subst he
        show (0 : Int) = 0 ∧ x.v 0 + 1 ≤ x.v 0 + 1 + 1
        omega
    · have he := List.mem_singleton.1 he
      subst he
      exact ⟨rfl, Int.le_refl _⟩
  · rcases h.is with ⟨i1, i2, i3⟩ | ⟨i1, i2, i3, i4⟩
    · exact .inl ⟨i1, i2, fun d hd => i3 d ((hl2 d).1 hd)⟩
    · refine .inr ⟨i1, (hl2 _).2 i2, by rw [hold _ i2, i3], fun d hd => ?_⟩
      have hd := (hl2 d).1 hd
      rw [gtB_eq (hold d hd) (hold id i2)]; exact i4 d hd
/-- What the house then tells. -/
theorem BS.ends {x : HL} {N : Nat} {best : Int} {id : Int × Int} (h : BS x N best id) :
    (best = 0 ∧ id = (0, 0) ∧ bestF x.bs (bidsF x.bs (0, 1) x.v) = none ∧ (bidsF x.bs (0, 1) x.v).length = 0) ∨
    (1 ≤ best ∧ bestF x.bs (bidsF x.bs (0, 1) x.v) = some id ∧ 0 < (bidsF x.bs (0, 1) x.v).length) := by
  have hL := bidsF_is (a := (0, 1)) (sv := x.v) h.hx.bk
  have hmem : ∀ d, d ∈ bidsF x.bs (0, 1) x.v ↔ Live x.bs d := fun d => by
    rw [hL.mem]
    unfold Live
    constructor
    · rintro ⟨⟨e, q1, q2, q3⟩, q4⟩
      simp only [bidE, Bool.and_eq_true, decide_eq_true_eq] at q3
      refine ⟨⟨e, q1, q2, q3.2⟩, fun ⟨e', z1, z2, z3, z4⟩ => q4 ⟨e', z1, ?_⟩⟩
      simp only [canE, Bool.and_eq_true, decide_eq_true_eq]
      exact ⟨(h.hx.be e' z1).2.2.2.2, z2, z3, z4⟩
    · rintro ⟨⟨e, q1, q2, q3⟩, q4⟩
      refine ⟨⟨e, q1, q2, ?_⟩, fun ⟨e', z1, z2⟩ => q4 ⟨e', z1, ?_⟩⟩
      · simp only [bidE, Bool.and_eq_true, decide_eq_true_eq]
        exact ⟨(h.hx.be e q1).2.2.2.2, q3⟩
      · simp only [canE, Bool.and_eq_true, decide_eq_true_eq] at z2
        exact z2.2
  rcases h.is with ⟨i1, i2, i3⟩ | ⟨i1, i2, i3, i4⟩
  · have hnil : bidsF x.bs (0, 1) x.v = [] := List.eq_nil_iff_forall_not_mem.2 fun d hd => i3 d ((hmem d).1 hd)
    exact .inl ⟨i1, i2, by rw [hnil]; rfl, by rw [hnil]; rfl⟩
  · refine .inr ⟨i1, ?_, List.length_pos_of_mem ((hmem id).2 i2)⟩
    have hB : BestO x.bs (bidsF x.bs (0, 1) x.v) (some id) := ⟨(hmem id).2 i2, fun e he => i4 e ((hmem e).1 he)⟩
    exact hB.eq.symm
end Go.Proofs

namespace Go.Proofs
open Go Go.V Go.Lib
set_option maxRecDepth 100000
set_option linter.unusedVariables false

/-! ### Rows of plain elements behind a slice that came in -/
def RowsIs {α : Type} (cl : α → List Value) (k : Nat) (h : Nat → Option Obj) (v : Value) (L : List α) : Prop := ((∃ a c, v = .slice a 0 c) ∧ L = []) ∨
  ∃ (b o c : Nat) (xs : List Value) (e : TypeId) (fr : Nat × Nat), v = .slice (some ⟨b, o, none⟩) L.length c ∧ h b = some (.cells xs.toArray e fr) ∧ ∀ i (hi : i < L.length), V.cut xs (o + i * k) k = some (cl L[i])
theorem RowsIs.shape {α : Type} {cl : α → List Value} {k : Nat} {h : Nat → Option Obj} {v : Value} {L : List α} (hv : RowsIs cl k h v L) : ∃ a c, v = .slice a L.length c := by
  rcases hv with ⟨⟨a, c, rfl⟩, rfl⟩ | ⟨b, o, c, xs, e, fr, rfl, _⟩
  · exact ⟨a, c, rfl⟩
  · exact ⟨_, c, rfl⟩
theorem RowsIs.at {α : Type} {cl : α → List Value} {k : Nat} {h : Nat → Option Obj} {a : Option Addr} {n c : Nat} {L : List α} (hv : RowsIs cl k h (.slice a n c) L) {i : Nat} (hi : i < L.length) :
    ∃ (b o : Nat) (xs : List Value) (e : TypeId) (fr : Nat × Nat), a = some ⟨b, o, none⟩ ∧ h b = some (.cells xs.toArray e fr) ∧ ∀ j (hj : j < L.length), V.cut xs (o + j * k) k = some (cl L[j]) := by
  rcases hv with ⟨h1, rfl⟩ | ⟨b, o, c, xs, e, fr, h1, h2, h3⟩
  · simp at hi
  · cases h1
    exact ⟨b, o, xs, e, fr, rfl, h2, h3⟩
theorem RowsIs.pos {α : Type} {cl : α → List Value} {k : Nat} {h : Nat → Option Obj} {a : Option Addr} {n c : Nat} {L : List α} (hv : RowsIs cl k h (.slice a n c) L) :
    ∃ (b o : Nat) (xs : List Value) (e : TypeId) (fr : Nat × Nat), 0 < L.length → a = some ⟨b, o, none⟩ ∧ h b = some (.cells xs.toArray e fr) ∧ ∀ j (hj : j < L.length), V.cut xs (o + j * k) k = some (cl L[j]) := by
  by_cases h0 : 0 < L.length
  · obtain ⟨b, o, xs, e, fr, h1⟩ := hv.at h0
    exact ⟨b, o, xs, e, fr, fun _ => h1⟩
  · exact ⟨0, 0, [], 0, (0, 0), fun h1 => absurd h1 h0⟩
theorem cut_one {xs : List Value} {o n : Nat} {l : List Value} (h : V.cut xs o n = some l) (j : Nat) (hj : j < n) : xs[o + j]? = l[j]? := ((cut_spec h).2 j hj).symm
def intcl (n : Int) : List Value := [.int .i64 n]
def boolcl (b : Bool) : List Value := [.bool b]
theorem bs0 : BS (tookN HL.new oT) 1 0 (0, 0) where
  hx := took_hi HI.new (by decide +kernel) (by decide)
  v0 := by decide
  red := rfl
  old := fun e he hk => by
    have he := List.mem_singleton.1 he
    subst he
    exact absurd hk (by decide)
  all0 := fun e he => by
    have he := List.mem_singleton.1 he
    subst he
    exact ⟨rfl, by decide⟩
  is := .inl ⟨rfl, rfl, fun d hd => by
    obtain ⟨⟨e, he, _, hk, _⟩, _⟩ := hd
    have he := List.mem_singleton.1 he
    subst he
    exact absurd hk (by decide)⟩
theorem BS.mono {x : HL} {N M : Nat} {best : Int} {id : Int × Int} (h : BS x N best id) (hn : N ≤ M) : BS x M best id :=
  ⟨h.hx.mono hn, ⟨h.v0.1, Int.le_trans h.v0.2 (Int.ofNat_le.2 hn)⟩, h.red, h.old, h.all0, h.is⟩
structure BSX where
  x : HL
  best : Int
  id : Int × Int
  i : Nat
theorem s_AuctBest (h : Nat → Option Obj) (hu : Uni h) (hc : CaseH h) (v1 : Value) (A : List Int) (hv1 : RowsIs intcl 1 h v1 A) (_ : True) (v2 : Value) (G : List Bool) (hv2 : RowsIs boolcl 1 h v2 G) (_ : True) :
    Ctr Tryd.prog F_rostrumlaw24_AuctBest [.raw v1, .raw v2] [.heap h] (fun r H => r = bv true ∧ H = [.heap h]) := by
  obtain ⟨a1, c1, rfl⟩ := hv1.shape
  obtain ⟨a2, c2, rfl⟩ := hv2.shape
  obtain ⟨b1, o1, xs1, e1, fr1, p1⟩ := hv1.pos
  obtain ⟨b2, o2, xs2, e2, fr2, p2⟩ := hv2.pos
  have fin : ∀ l : List SO, VRet 1 (bv true) (.heap h :: l) (fun r H => r = bv true ∧ H = [.heap h]) := fun l => VRet.mk [0] (bv true) [.heap h] ⟨rfl, rfl, rfl⟩ ⟨rfl, rfl⟩
  refine i_rostrumlaw24_AuctBest.spec follows ?_
  refine VCall.mk [0] (s_awake h hu hc) ⟨rfl, rfl, rfl⟩ ?_
  rintro _ _ ⟨rfl, rfl⟩
  refine And.intro (fun k => absurd k (by decide)) (fun _ => ?_)
  refine And.intro (fun k1 => ?_) (fun k1 => fin _)
  refine And.intro (fun k2 => fin _) (fun k2 => ?_)
  have k1 : ¬ (15 : Int) < (A.length : Nat) := of_decide_eq_false k1
  have k2 : ¬ ((G.length : Nat) : Int) < (A.length : Nat) := of_decide_eq_false k2
  refine VCall.mk [] s_New ⟨rfl, rfl, rfl⟩ ?_
  rintro _ _ ⟨rfl, rfl⟩
  have hb0 : blueE HL.new oT = 0 := by decide +kernel
  have hB := s_Blue h hu HL.new HI.new.v [] 0 0 oT (by decide) (by decide)
  rw [hb0, blueN_0 hb0] at hB
  refine VCall.mk [1, 2, 3, 4, 5, 6, 0] hB ⟨rfl, rfl, rfl⟩ ?_
  rintro _ _ ⟨rfl, rfl⟩
  refine And.intro (fun k => absurd k (by decide)) (fun _ => ?_)
  refine VLoop.mk BSX (fun y => [(0, .raw (.slice a1 A.length c1)), (1, .raw (.slice a2 G.length c2)), (5, .ptr 1 0), (6, .ptr 7 0), (7, iv (y.x.v 0)), (8, iv y.best), (9, .ptr 8 0), (10, iv y.i)])
    (fun y => .heap h :: hoP y.x [] 0 0 ++ [.cells (dcells 0 1) 28, .cells (dcells y.id.1 y.id.2) 28]) (fun y => y.i ≤ A.length ∧ BS y.x (2 * y.i + 1) y.best y.id) (fun y => A.length - y.i) ⟨tookN HL.new oT, 0, (0, 0), 0⟩ [0, 1, 2, 3, 4, 5, 6, 7, 8]
    ⟨⟨Nat.zero_le _, bs0⟩, rfl, rfl, rfl⟩ ?_
  rintro ⟨x, best, id, i⟩ ⟨hi, hS⟩ g
  simp only at hi hS
  refine And.intro (fun h1 => ?_) (fun h1 => ?_)
  · have h1 : (i : Int) < (A.length : Nat) := of_decide_eq_true h1
    have hil : i < A.length := by omega
    have hig : i < G.length := by omega
    have hwi : IntKind.i64.wrap ((i : Int) + 1) = ((i + 1 : Nat) : Int) := wrap64 (by omega)
    have q1 := p1 (by omega)
    have q2 := p2 (by omega)
    obtain ⟨rfl, hh1, hcut1⟩ := q1
    obtain ⟨rfl, hh2, hcut2⟩ := q2
    have ci := cut_one (hcut1 i hil) 0 (by omega)
    have cg := cut_one (hcut2 i hig) 0 (by omega)
    have hv0 := hS.v0
    have hwn : IntKind.i64.wrap (x.v 0 + 1) = x.v 0 + 1 := wrap64 (by omega)
    have hwn2 : IntKind.i64.wrap (x.v 0 + 1 + 1) = x.v 0 + 1 + 1 := wrap64 (by omega)
    have hni : (0 : Int) ≤ (i : Int) ∧ (i : Int) < (A.length : Nat) := ⟨Int.natCast_nonneg i, h1⟩
    have hng : (0 : Int) ≤ (i : Int) ∧ (i : Int) < (G.length : Nat) := ⟨Int.natCast_nonneg i, by omega⟩
    refine And.intro hni ?_
    refine Exists.intro 0 (Exists.intro xs1 (Exists.intro e1 (Exists.intro fr1 (And.intro hh1 (Exists.intro _ (And.intro (by rw [Int.toNat_natCast]; exact ci) ?_))))))
    refine And.intro (fun k3 => ?_) (fun k3 => fin _)
    refine And.intro hni ?_
    refine Exists.intro 0 (Exists.intro xs1 (Exists.intro e1 (Exists.intro fr1 (And.intro hh1 (Exists.intro _ (And.intro (by rw [Int.toNat_natCast]; exact ci) ?_))))))
    refine And.intro (fun k4 => fin _) (fun k4 => ?_)
    have k3 := of_decide_eq_false k3
    have k4 := of_decide_eq_false k4
    have ha : 1 ≤ A[i] ∧ A[i] ≤ 1000000000 := by omega
    refine Exists.intro _ (And.intro hwn ?_)
    refine And.intro hni ?_
    refine Exists.intro 0 (Exists.intro xs1 (Exists.intro e1 (Exists.intro fr1 (And.intro hh1 (Exists.intro _ (And.intro (by rw [Int.toNat_natCast]; exact ci) ?_))))))
    refine And.intro rfl (And.intro rfl ?_)
    refine And.intro (And.intro hni rfl) ?_
    refine And.intro (Exists.intro 0 (Exists.intro xs1 (Exists.intro e1 (Exists.intro fr1 (And.intro hh1 (Exists.intro _ (And.intro (by rw [Int.toNat_natCast]; exact ci) rfl))))))) ?_
    refine And.intro rfl ?_
    refine Exists.intro _ (And.intro hwn ?_)
    obtain ⟨hb, hh, -⟩ := hS.bid (by omega) ha
    have hB := s_Blue h hu x hS.hx.v [] 0 0 (bidT (x.v 0) A[i]) (show (0 : Nat) ≤ _ by omega) (show (1 : Nat) ≤ _ by omega)
    rw [hb, blueN_0 hb] at hB
    refine VCall.mk [1, 2, 3, 4, 5, 6, 0] hB ⟨rfl, rfl, rfl⟩ ?_
    rintro _ _ ⟨rfl, rfl⟩
    refine And.intro (fun k => absurd k (by decide)) (fun _ => ?_)
    refine And.intro hng ?_
    refine Exists.intro 0 (Exists.intro xs2 (Exists.intro e2 (Exists.intro fr2 (And.intro hh2 (Exists.intro _ (And.intro (by rw [Int.toNat_natCast]; exact cg) ?_))))))
    refine And.intro (fun g1 => ?_) (fun g1 => ?_)
    · refine Exists.intro _ (And.intro hwn2 ?_)
      refine Exists.intro _ (And.intro hwn2 ?_)
      obtain ⟨hb2, hS2⟩ := hS.gone (by omega) ha
      have hB2 := s_Blue h hu (tookN x (bidT (x.v 0) A[i])) hh.v [] 0 0 (canT (x.v 0 + 1) (x.v 0 + 1)) (show (0 : Nat) ≤ _ by omega) (show (0 : Nat) ≤ _ by omega)
      rw [hb2, blueN_0 hb2] at hB2
      refine VCall.mk [1, 2, 3, 4, 5, 6, 0] hB2 ⟨rfl, rfl, rfl⟩ ?_
      rintro _ _ ⟨rfl, rfl⟩
      refine And.intro (fun k => absurd k (by decide)) (fun _ => ?_)
      refine Exists.intro _ (And.intro hwi ?_)
      exact Exists.intro ⟨tookN (tookN x (bidT (x.v 0) A[i])) (canT (x.v 0 + 1) (x.v 0 + 1)), best, id, i + 1⟩ (Exists.intro [0, 1, 2, 3, 4, 5, 6, 7, 8] (And.intro ⟨⟨hil, hS2⟩, by simp only; omega⟩ ⟨rfl, rfl, rfl⟩))
    · have hK := hS.keep (by omega) ha
      refine And.intro hni ?_
      refine Exists.intro 0 (Exists.intro xs1 (Exists.intro e1 (Exists.intro fr1 (And.intro hh1 (Exists.intro _ (And.intro (by rw [Int.toNat_natCast]; exact ci) ?_))))))
      refine And.intro (fun k5 => ?_) (fun k5 => ?_)
      · have k5 : best < A[i] := of_decide_eq_true k5
        rw [if_pos k5, if_pos k5] at hK
        refine And.intro hni ?_
        refine Exists.intro 0 (Exists.intro xs1 (Exists.intro e1 (Exists.intro fr1 (And.intro hh1 (Exists.intro _ (And.intro (by rw [Int.toNat_natCast]; exact ci) ?_))))))
        refine Exists.intro _ (And.intro hwi ?_)
        exact Exists.intro ⟨tookN x (bidT (x.v 0) A[i]), A[i], (0, x.v 0 + 1), i + 1⟩ (Exists.intro [0, 1, 2, 3, 4, 5, 6, 7, 8] (And.intro ⟨⟨hil, hK.mono (by simp only; omega)⟩, by simp only; omega⟩ ⟨rfl, rfl, rfl⟩))
      · have k5 : ¬ best < A[i] := of_decide_eq_false k5
        rw [if_neg k5, if_neg k5] at hK
        refine Exists.intro _ (And.intro hwi ?_)
        exact Exists.intro ⟨tookN x (bidT (x.v 0) A[i]), best, id, i + 1⟩ (Exists.intro [0, 1, 2, 3, 4, 5, 6, 7, 8] (And.intro ⟨⟨hil, hK.mono (by simp only; omega)⟩, by simp only; omega⟩ ⟨rfl, rfl, rfl⟩))
  · have hN : x.bs.length ≤ 1000000 := by have := hS.hx.bl; omega
    have hE := hS.ends
    have hBe := s_Best x hS.hx.b hS.hx.bk hN [] 0 0 (0, 1)
    have hBi := s_Bids x hS.hx.b hS.hx.bk hN [] 0 0 (0, 1)
    rcases hE with ⟨r1, r2, r3, r4⟩ | ⟨r1, r2, r3⟩
    · rw [r3] at hBe
      rw [r4] at hBi
      subst r1 r2
      refine VCall.mk [1, 2, 3, 4, 5, 6] hBe ⟨rfl, rfl, rfl⟩ ?_
      rintro _ _ ⟨rfl, rfl⟩
      refine And.intro (fun _ => ?_) (fun k => absurd k (by simp))
      refine And.intro (fun _ => ?_) (fun k => absurd k (by simp))
      refine VCall.mk [1, 2, 3, 4, 5, 6] hBi ⟨rfl, rfl, rfl⟩ ?_
      rintro _ _ ⟨xs, o, c, rfl, rfl, hr, hll⟩
      refine VRet.mk [0] (bv _) [.heap h] ⟨rfl, rfl, rfl⟩ ⟨?_, rfl⟩
      simp
    · rw [r2] at hBe
      refine VCall.mk [1, 2, 3, 4, 5, 6] hBe ⟨rfl, rfl, rfl⟩ ?_
      rintro _ _ ⟨rfl, rfl⟩
      have r1' : (0 : Int) < best := by omega
      refine And.intro (fun k5 => ?_) (fun k => absurd k (by simp [r1']))
      refine And.intro (fun k6 => ?_) (fun k => absurd k (by simp))
      refine VCall.mk [1, 2, 3, 4, 5, 6] hBi ⟨rfl, rfl, rfl⟩ ?_
      rintro _ _ ⟨xs, o, c, rfl, rfl, hr, hll⟩
      refine VRet.mk [0] (bv _) [.heap h] ⟨rfl, rfl, rfl⟩ ⟨?_, rfl⟩
      simp [r1', r3]
end Go.Proofs

namespace Go.Proofs
open Go Go.V Go.Lib
set_option maxRecDepth 100000
set_option linter.unusedVariables false

/-! ### Who is registered -/
abbrev kcl (e : ByteArray × Bool × Nat) : List Value := [.string e.1]
abbrev ktx (e : ByteArray × Bool × Nat) : List UInt8 := e.1.data.toList
abbrev scl : List UInt8 → List Value := Go.V.stcl
theorem kcl_st (l : MU) : l.flatMap kcl = (l.map ktx).flatMap scl := by
  induction l with
  | nil => rfl
  | cons e l ih => rw [List.flatMap_cons, List.map_cons, List.flatMap_cons, ih]
theorem s_SortS (d : List (List UInt8)) (xs : List Value) (o c : Nat) (hr : RowG scl 1 xs o c d) (hl : d.length ≤ 1000000) :
    Ctr Tryd.prog F_slices_Sort_sl_string_string [.sl 0 o d.length c] [.arr xs T_string] (fun x H => ∃ xs', x = .tup [] ∧ H = [.arr xs' T_string] ∧ RowG scl 1 xs' o c (d.mergeSort fun x y => decide (x ≤ y))) := by
  obtain ⟨h1, h2, h3⟩ := hr
  rw [Nat.mul_one] at h3
  have h := sortS_ctr Tryd.laysSort (H := [.arr xs T_string]) (j := 0) (off := o) (cap := c) (xs := xs) (e := T_string) rfl d h3 (by omega) (by omega)
  refine Ctr.weak h ?_
  rintro v H' ⟨rfl, rfl⟩
  have hm : (d.mergeSort fun x y => decide (x ≤ y)).length = d.length := List.length_mergeSort _
  have hf : ((d.mergeSort fun x y => decide (x ≤ y)).flatMap Go.V.stcl).length = d.length := by rw [flatMap_len (f := Go.V.stcl) (k := 1) (fun _ => rfl), hm]; omega
  refine ⟨_, rfl, rfl, by rw [hm]; exact h1, by rw [rowSet_len (by omega)]; exact h2, ?_⟩
  rw [hm, Nat.mul_one, ← hf]; exact rowSet_cut (by omega)
structure USX where
  pre : MU
  seen : List Nat
  n : Nat
  xs : List Value
  o : Nat
  c : Nat
/-- The names, sorted. -/
def UsL (us : MU) (d : List (List UInt8)) : Prop := d.Perm (us.map ktx) ∧ d.Pairwise fun a b => a ≤ b
theorem s_Users (x : HL) (N : Nat) (hx : HI x N) (hN : N ≤ 1000000) (rx : List Value) (ro rc : Nat) :
    Ctr Tryd.prog F_auct_House_Users [.ptr 0 0] (hoH x rx ro rc)
      (fun r H => ∃ d xs o c, UsL x.us d ∧ r = .sl 6 o x.us.length c ∧ H = hoH x rx ro rc ++ [.arr xs T_string] ∧ RowG scl 1 xs o c d) := by
  have hxl := hx.ul
  refine i_auct_House_Users.spec follows ?_
  refine VLoop.nil T_string [3] [] ⟨rfl, rfl⟩ ?_
  refine VLoop.mk USX (fun y => [(3, .sl 7 y.o y.n y.c), (9, .ptr 6 0)]) (fun y => hoH x rx ro rc ++ [.iter (some 2) x.uc y.seen x.uc, .arr y.xs T_string]) (fun y => Been x.us y.pre y.seen ∧ y.n = y.pre.length ∧ RowG kcl 1 y.xs y.o y.c y.pre) (fun y => x.us.length - y.pre.length) ⟨[], [], 0, [], 0, 0⟩ [0, 1, 2, 3, 4, 5, 6, 7]
    ⟨⟨Been.nil _, rfl, ⟨Nat.le_refl _, by simp, by simp⟩⟩, rfl, rfl, rfl⟩ ?_
  rintro ⟨pre, seen, n, xs, o, c⟩ ⟨h1, hn, hr⟩ g
  simp only at h1 hn hr
  refine And.intro ⟨fun e he => ?_, Nat.le_refl _⟩ (And.intro (fun hall => ?_) (fun e he hns => ?_))
  · obtain ⟨y, hy, rfl⟩ := List.mem_map.1 he
    exact hx.u.1 y hy
  · have hsub : ∀ y, y ∈ x.us → y ∈ pre := fun y hy => h1.all hx.u.2 hy (hall _ (List.mem_map.2 ⟨y, hy, rfl⟩))
    have hpn : pre.Nodup := by have := h1.nd; rw [h1.eq] at this; exact nodup_of_map _ this
    have hp : pre.Perm x.us := (List.perm_ext_iff_of_nodup hpn (nodup_of_map _ hx.uk)).2 fun a => ⟨h1.sub a, hsub a⟩
    have hpl := hp.length_eq
    have hr2 : RowG scl 1 xs o c (pre.map ktx) := by
      refine ⟨by rw [List.length_map]; exact hr.1, hr.2.1, ?_⟩
      rw [List.length_map, ← kcl_st]; exact hr.2.2
    subst hn
    have hS := s_SortS (pre.map ktx) xs o c hr2 (by rw [List.length_map]; omega)
    rw [List.length_map] at hS
    refine VCall.mk [7] hS ⟨rfl, rfl, rfl⟩ ?_
    rintro _ _ ⟨xs', rfl, rfl, hr'⟩
    have hU : UsL x.us ((pre.map ktx).mergeSort fun x y => decide (x ≤ y)) := by
      refine ⟨(List.mergeSort_perm _ _).trans (hp.map _), ?_⟩
      have := List.pairwise_mergeSort (le := fun x y : List UInt8 => decide (x ≤ y)) (fun a b c h1 h2 => by
        simp only [decide_eq_true_eq] at h1 h2 ⊢
        exact List.le_trans h1 h2) (fun a b => by
        simp only [Bool.or_eq_true, decide_eq_true_eq]
        exact List.le_total a b) (pre.map ktx)
      exact this.imp fun h => by simpa using h
    rw [hpl]
    exact VRet.mk [0, 1, 2, 3, 4, 5, 7] (.sl 6 o x.us.length c) (hoH x rx ro rc ++ [.arr xs' T_string]) ⟨rfl, rfl, rfl⟩ ⟨_, xs', o, c, hU, rfl, rfl, hr'⟩
  · obtain ⟨y, hy, rfl⟩ := List.mem_map.1 he
    have hns : y.2.2 ∉ seen := hns
    have hlen : x.us.length - (pre ++ [y]).length < x.us.length - pre.length := h1.len hy hns
    have hmore := h1.more hy hns
    refine Exists.intro y.2.2 (Exists.intro (ent encT encB y) (And.intro (last_snoc _ _) (And.intro (find_ents hx.u.2 hy) (And.intro rfl ?_))))
    have hnb : (n + 1) * 16 ≤ 1099511627776 := by omega
    refine And.intro ⟨⟨by rw [hn]; exact hr.1, hr.2.1, rfl⟩, ⟨rfl, rfl⟩, hnb⟩ ?_
    intro xs' o' c' hz
    exact Exists.intro ⟨pre ++ [y], seen ++ [y.2.2], n + 1, xs', o', c'⟩ (Exists.intro [0, 1, 2, 3, 4, 5, 6, 9] (And.intro ⟨⟨hmore, by simp only; rw [hn, List.length_append]; rfl, RowG.snoc hr hn hz.1 hz.2.1 hz.2.2⟩, hlen⟩ ⟨rfl, rfl, rfl⟩))
end Go.Proofs

namespace Go.Proofs
open Go Go.V Go.Lib
set_option maxRecDepth 100000
set_option linter.unusedVariables false

/-! ### Money, outcomes, who is registered -/
structure MI (x : HL) (N : Nat) : Prop where
  hx : HI x N
  dd : ∀ u, drawnF x u ≤ depS u x.bs
theorem MI.new : MI HL.new 0 := ⟨HI.new, fun u => Int.le_refl _⟩
theorem MI.mono {x : HL} {N M : Nat} (h : MI x N) (hn : N ≤ M) : MI x M := ⟨h.hx.mono hn, h.dd⟩
theorem depS_blue {x : HL} {N : Nat} (hx : HI x N) (s : ST) (hz : s.user.size ≤ 100000000) (u : ByteArray) : depS u x.bs ≤ depS u (blueN x s).bs := by
  by_cases hb : blueE x s = 0
  · have e : blueN x s = tookN x s := blueN_0 hb
    rw [e, (took_bs hx hb).1, depS_app]
    have : 0 ≤ depS u [((s.rep, s.n), s, x.bc)] := depS_nn _ fun e he => by
      have he := List.mem_singleton.1 he
      subst he
      exact (blueE_0 hb).1
    omega
  · rw [blueN_1 hb]; exact Int.le_refl _
theorem drawn_blue (x : HL) (s : ST) (u : ByteArray) : drawnF (blueN x s) u = drawnF x u := by
  unfold blueN; cases decide (blueE x s = 0) <;> rfl
theorem us_blue (x : HL) (s : ST) : (blueN x s).us = x.us := by
  unfold blueN; cases decide (blueE x s = 0) <;> rfl
theorem cs_blue (x : HL) (s : ST) : (blueN x s).cs = x.cs := by
  unfold blueN; cases decide (blueE x s = 0) <;> rfl
theorem MI.blue {x : HL} {N : Nat} (h : MI x N) {s : ST} (hz : s.user.size ≤ 100000000) : MI (blueN x s) (N + 1) :=
  ⟨h.hx.blue hz, fun u => by rw [drawn_blue]; exact Int.le_trans (h.dd u) (depS_blue h.hx s hz u)⟩
theorem bs_red (x : HL) (s : ST) : (doN x s).bs = x.bs := by
  unfold doN
  cases decide (s.kind = 5) <;> cases decide (s.kind = 6) <;> cases decide (s.amount ≤ s.funds - drawnF x (foldB s.user)) <;> cases mayEnd x s <;> rfl
theorem us_red (x : HL) (s : ST) : x.us.length ≤ (doN x s).us.length := by
  unfold doN
  cases decide (s.kind = 5) <;> cases decide (s.kind = 6) <;> cases decide (s.amount ≤ s.funds - drawnF x (foldB s.user)) <;> cases mayEnd x s <;>
    first
    | exact Nat.le_refl _
    | (show x.us.length ≤ (MP.put x.us (foldB s.user) true x.uc).length
       rw [len_put]; split <;> omega)
theorem cs_red {x : HL} {s : ST} {d : Int × Int} {o : OC} (h : MP.get x.cs d = some o) : MP.get (doN x s).cs d = some o := by
  unfold doN
  cases decide (s.kind = 5) <;> cases decide (s.kind = 6) <;> cases decide (s.amount ≤ s.funds - drawnF x (foldB s.user)) <;> cases hm : mayEnd x s <;>
    first
    | exact h
    | (show MP.get (MP.put x.cs (s.ar, s.an) (outF x s) x.cc) d = some o
       rw [get_put, if_neg, h]
       intro e
       subst e
       simp [mayEnd, h] at hm)
theorem MI.red {x : HL} {N : Nat} (h : MI x N) {s : ST} (he : doE x s = 0) (hf : s.kind = 6 → s.funds ≤ depF x s.user) : MI (doN x s) (N + 1) := by
  refine ⟨h.hx.red he, fun u => ?_⟩
  rw [bs_red]
  have hu := h.dd u
  by_cases k5 : s.kind = 5
  · have e : drawnF (doN x s) u = drawnF x u := by simp only [doN, k5, decide_true, cond_true]; rfl
    rw [e]; exact hu
  by_cases k6 : s.kind = 6
  · have hf := hf k6
    by_cases k7 : s.amount ≤ s.funds - drawnF x (foldB s.user)
    · have e : drawnF (doN x s) u = if u = foldB s.user then drawnF x (foldB s.user) + s.amount else drawnF x u := by
        have : doN x s = dsD x s := by simp [doN, k5, k6, k7]
        rw [this]
        show (MP.get (MP.put x.ds (foldB s.user) (drawnF x (foldB s.user) + s.amount) x.dc) u).getD 0 = _
        rw [get_put]
        split <;> rfl
      rw [e]
      split
      · rename_i hq
        rw [hq]
        unfold depF at hf
        have : min (depS (foldB s.user) x.bs) 1125899906842624 ≤ depS (foldB s.user) x.bs := Int.min_le_left _ _
        omega
      · exact hu
    · have : doN x s = x.did s := by simp [doN, k5, k6, k7]
      rw [this]; exact hu
  · have e : drawnF (doN x s) u = drawnF x u := by
      unfold doN
      rw [show decide (s.kind = 5) = false from decide_eq_false k5, show decide (s.kind = 6) = false from decide_eq_false k6]
      cases mayEnd x s <;> rfl
    rw [e]; exact hu
theorem MI.bal {x : HL} {N : Nat} (h : MI x N) (u : ByteArray) : 0 ≤ depF x u - drawnF x (foldB u) := by
  have h1 := h.dd (foldB u)
  have h2 := (h.hx.dr (foldB u)).2
  unfold depF
  omega
theorem auc_open {x : HL} {N : Nat} (hx : HI x N) {d : Int × Int} (hd : d ∈ aucF x) : openF x d = !(MP.get x.cs d).isSome := by
  have h := mem_sortD.1 hd
  obtain ⟨e, he, rfl⟩ := List.mem_map.1 h
  have he := List.mem_filter.1 he
  have hk : e.2.1.kind = 1 := by simpa [opE] using he.2
  unfold openF
  rw [get_of_mem hx.bk he.1]
  show (decide (e.2.1.kind = 1) && _) = _
  rw [hk]; rfl
theorem kW : KeyT Tryd.prog 59 62 encD := keyT_Dot (by kernel_rfl)
theorem lookW (ms : MC) (d : Int × Int) : LookupIs Tryd.prog 59 (ents encD encO ms) (encD d) (encO ((MP.get ms d).getD zeroO)) ((MP.get ms d).isSome) := by
  have := lookup_is (encv := encO) kW (z := encO zeroO) (by kernel_rfl) ms d
  cases h : MP.get ms d <;> rw [h] at this <;> exact this
def longT (s : ST) : Bool := decide ((100 : Int) < s.name.size) || decide ((100 : Int) < s.user.size)
theorem s_long (s : ST) : Ctr Tryd.prog F_rostrumlaw24_long [.agg (stcells s)] [] (fun x H => x = bv (longT s) ∧ H = []) := by
  have fin : ∀ (b : Bool) (l : List SO), b = longT s → VRet 0 (bv b) l (fun x H => x = bv (longT s) ∧ H = []) := by
    rintro b l rfl
    exact VRet.mk [] _ [] ⟨rfl, rfl, rfl⟩ ⟨rfl, rfl⟩
  refine i_rostrumlaw24_long.spec follows ?_
  refine And.intro (fun h => ?_) (fun h => ?_)
  · exact fin _ _ (by rw [longT, show decide ((100 : Int) < s.name.size) = false from h]; rfl)
  · exact fin _ _ (by rw [longT, show decide ((100 : Int) < s.name.size) = true from h]; rfl)
theorem long_not {s : ST} (h : longT s = false) : s.name.size ≤ 100 ∧ s.user.size ≤ 100 := by
  simp only [longT, Bool.or_eq_false_iff, decide_eq_false_iff_not] at h
  omega
end Go.Proofs

namespace Go.Proofs
open Go Go.V Go.Lib
set_option maxRecDepth 100000
set_option linter.unusedVariables false

/-! ### Bytes -/
theorem brow_nil_of {xs : List Value} {o c : Nat} {l : List Int} (h : Brow xs o c l) (hx : xs = []) : l = [] := by
  subst hx
  have := h.1; have := h.2.1
  simp at this
  exact List.length_eq_zero_iff.1 (by omega)
theorem brow_nil : Brow [] 0 0 [] := ⟨Nat.le_refl _, by simp, rfl⟩
theorem s_bytes_Clone (l : List Int) (xs : List Value) (te : TypeId) (o c : Nat) (hb : Brow xs o c l) (hl : l.length ≤ 10000000) :
    Ctr Tryd.prog F_bytes_Clone [.sl 0 o l.length c] [.arr xs te] (fun x H => ∃ o' c' ys, x = .sl 1 o' l.length c' ∧ H = [.arr xs te, .arr ys T_uint8] ∧ Brow ys o' c' l) := by
  refine i_bytes_Clone.spec follows ?_
  refine fun b hbn => ?_
  refine And.intro (fun h => ?_) (fun _ => ?_)
  · have hx : xs = [] := by
      refine Classical.byContradiction fun hn => ?_
      rw [hbn hn] at h; cases h
    have hl0 := brow_nil_of hb hx
    refine VRet.nil T_uint8 [0] [] ⟨rfl, rfl⟩ (VRet.mk [0, 1] (.sl 1 0 0 0) [.arr xs te, .arr [] T_uint8] ⟨rfl, rfl, rfl⟩ ⟨0, 0, [], ?_, rfl, ?_⟩)
    · rw [hl0]; rfl
    · rw [hl0]; exact brow_nil
  refine And.intro ⟨⟨Nat.zero_le _, by simp, rfl⟩, ⟨?_, ?_⟩, by omega⟩ ?_
  · rw [hb.take1]; simp
  · rw [hb.take1]; exact cellsOK_ints l
  intro zs' o' c' hz
  refine VRet.mk [0, 2] (.sl 1 o' (0 + l.length) c') [.arr xs te, .arr zs' T_uint8] ⟨rfl, rfl, rfl⟩ ⟨o', c', zs', ?_, rfl, ?_, ?_, ?_⟩
  · show SV.sl 1 o' (0 + l.length) c' = _; rw [Nat.zero_add]
  · omega
  · omega
  · have := hz.2.2
    rw [hb.take1] at this
    simpa using this
structure BX where
  xs : List Value
  o : Nat
  c : Nat
  l : List Int
  u : Nat
theorem s_pack_Num (l : List Int) (xs : List Value) (te : TypeId) (o c : Nat) (hb : Brow xs o c l) (hl : l.length ≤ 9000000) (v : Int) (hv : 0 ≤ v ∧ v < 4611686018427387904) :
    Ctr Tryd.prog F_pack_Num [.sl 0 o l.length c, iv v] [.arr xs te] (fun x H => ∃ o' c' ys, x = .sl 1 o' (l ++ Go.V.numB (2 * v.toNat)).length c' ∧ H = [.arr xs te, .arr ys T_uint8] ∧ Brow ys o' c' (l ++ Go.V.numB (2 * v.toNat))) := by
  refine i_pack_Num.spec follows ?_
  have hlen := numB_len10 (u := 2 * v.toNat) (by omega)
  refine VCall.mk [0] (s_bytes_Clone l xs te o c hb (by omega)) ⟨rfl, rfl, rfl⟩ ?_
  rintro _ _ ⟨o1, c1, ys1, rfl, rfl, hb1⟩
  refine Exists.intro _ (And.intro (w64u (n := v) (by omega)) ?_)
  refine And.intro (by omega) (Exists.intro _ (And.intro (shl1 hv) ?_))
  refine And.intro (by omega) (Exists.intro _ (And.intro (shr63 hv) ?_))
  refine Exists.intro _ (And.intro (w64u (n := 0) (by omega)) ?_)
  refine Exists.intro _ (And.intro (xor0 (u := 2 * v.toNat) (by omega)) ?_)
  refine VLoop.mk BX (fun x => [(5, .sl 1 x.o x.l.length x.c), (6, .raw (.int .u64 (x.u : Int)))])
    (fun x => [.arr xs te, .arr x.xs T_uint8])
    (fun x => Brow x.xs x.o x.c x.l ∧ x.l ++ Go.V.numB x.u = l ++ Go.V.numB (2 * v.toNat) ∧ x.u < 18446744073709551616) (fun x => x.u) ⟨ys1, o1, c1, l, 2 * v.toNat⟩ [0, 1] ⟨⟨hb1, rfl, by simp only; omega⟩, rfl, rfl, rfl⟩ ?_
  clear hb1
  rintro ⟨xs2, o2, c2, l2, u⟩ ⟨hB, hN, hu64⟩ g
  simp only at hB hN hu64
  have hNl := congrArg List.length hN
  simp only [List.length_append] at hNl
  have hlu : l2.length ≤ 10000000 := by omega
  refine And.intro (fun h => ?_) (fun h => ?_)
  · have h := of_decide_eq_true h
    have hu : ¬ u < 128 := by simp only at h; omega
    refine Exists.intro _ (And.intro (Go.V.w8 u) ?_)
    refine Exists.intro _ (And.intro (Go.V.or8 u) ?_)
    refine And.intro ⟨⟨hB.1, by have := hB.2.1; simpa using this, rfl⟩, ⟨rfl, rfl⟩, by simp only; omega⟩ ?_
    intro zs' o' c' hz
    refine And.intro (by omega) (Exists.intro _ (And.intro (Go.V.sh7 u) ?_))
    refine Exists.intro ⟨zs', o', c', l2 ++ [((u % 128 + 128 : Nat) : Int)], u / 128⟩ (Exists.intro [0, 3] (And.intro ⟨⟨⟨?_, ?_, ?_⟩, ?_, by show u / 128 < _; omega⟩, ?_⟩ ⟨?_, rfl, rfl⟩))
    · have := hz.1; simp only at this; simp; omega
    · have := hz.2.1; simpa using this
    · have := hz.2.2
      simp only at this
      rw [hB.take1] at this
      simpa using this
    · rw [← hN, numB_ge hu, List.append_assoc]; rfl
    · show u / 128 < u; omega
    · show [nkb (.sl 3 o' (l2.length + 1) c'), _] = [nkb (.sl 3 o' (l2 ++ [((u % 128 + 128 : Nat) : Int)]).length c'), _]
      rw [List.length_append]; rfl
  · have h := of_decide_eq_false h
    have hu : u < 128 := by simp only at h; omega
    refine Exists.intro _ (And.intro (Go.V.w8 u) ?_)
    refine And.intro ⟨⟨hB.1, by have := hB.2.1; simpa using this, rfl⟩, ⟨rfl, rfl⟩, by simp only; omega⟩ ?_
    intro zs' o' c' hz
    have hm : u % 256 = u := by omega
    rw [numB_lt hu] at hN
    refine VRet.mk [0, 3] (.sl 1 o' (l2.length + 1) c') [.arr xs te, .arr zs' T_uint8] ⟨rfl, rfl, rfl⟩ ⟨o', c', zs', ?_, rfl, ?_⟩
    · show SV.sl 1 o' (l2.length + 1) c' = _; rw [← hN, List.length_append]; rfl
    · rw [← hN]
      refine ⟨?_, ?_, ?_⟩
      · have := hz.1; simp only at this; simp; omega
      · have := hz.2.1; simpa using this
      · have := hz.2.2
        simp only at this
        rw [hB.take1, hm] at this
        simpa using this
def vecB (v : Nat → Int) : Nat → List Int
  | 0 => []
  | n + 1 => vecB v n ++ Go.V.numB (2 * (v n).toNat)
theorem vecB_len {v : Nat → Int} (hv : ∀ r, r < 7 → 0 ≤ v r ∧ v r ≤ 1099511627776) : ∀ n, n ≤ 7 → (vecB v n).length ≤ 10 * n
  | 0, _ => by simp [vecB]
  | n + 1, h => by
    have := vecB_len hv n (by omega)
    have := hv n (by omega)
    have := numB_len10 (u := 2 * (v n).toNat) (by omega)
    rw [vecB, List.length_append]; omega

theorem s_vec_Put (l : List Int) (xs : List Value) (te : TypeId) (o c : Nat) (hb : Brow xs o c l) (hl : l.length ≤ 8000000) (v : Nat → Int) (hv : ∀ r, r < 7 → 0 ≤ v r ∧ v r ≤ 1099511627776) :
    Ctr Tryd.prog F_vec_Put [.sl 0 o l.length c, .agg (vcells v)] [.arr xs te] (fun x H => ∃ o' c' ys, x = .sl 1 o' (l ++ vecB v 7).length c' ∧ H = [.arr xs te, .arr ys T_uint8] ∧ Brow ys o' c' (l ++ vecB v 7)) := by
  refine i_vec_Put.spec follows ?_
  refine VLoop.mk (Option BX) (fun x => match x with | none => [(0, .sl 0 o l.length c), (7, .agg (vcells v)), (8, iv (0 : Nat))] | some x => [(0, .sl 1 x.o x.l.length x.c), (7, .agg (vcells v)), (8, iv (x.u : Nat))])
    (fun x => match x with | none => [.arr xs te] | some x => [.arr xs te, .arr x.xs T_uint8])
    (fun x => match x with | none => True | some x => Brow x.xs x.o x.c x.l ∧ x.l = l ++ vecB v x.u ∧ x.u ≤ 7) (fun x => match x with | none => 8 | some x => 7 - x.u) none [0] ⟨trivial, rfl, rfl, rfl⟩ ?_
  rintro (_ | ⟨xs2, o2, c2, l2, i⟩) hinv g
  · refine And.intro (fun _ => ?_) (fun h => absurd h (by decide))
    have := hv 0 (by omega)
    refine And.intro ⟨by omega, by omega⟩ (Exists.intro _ (And.intro rfl ?_))
    refine VCall.mk [0] (s_pack_Num l xs te o c hb (by omega) (v 0) (by omega)) ⟨rfl, rfl, rfl⟩ ?_
    rintro _ _ ⟨o', c', ys, rfl, rfl, hB⟩
    refine Exists.intro _ (And.intro (wrap64 (n := ((0 : Nat) : Int) + 1) (by omega)) ?_)
    exact Exists.intro (some ⟨ys, o', c', l ++ Go.V.numB (2 * (v 0).toNat), 1⟩) (Exists.intro [0, 1] (And.intro ⟨⟨hB, by simp [vecB], by show 1 ≤ 7; omega⟩, by show 7 - 1 < 8; omega⟩ ⟨rfl, rfl, rfl⟩))
  have hinv : Brow xs2 o2 c2 l2 ∧ l2 = l ++ vecB v i ∧ i ≤ 7 := hinv
  obtain ⟨hB, rfl, hi⟩ := hinv
  have hvl := vecB_len hv i hi
  refine And.intro (fun h => ?_) (fun h => ?_)
  · have h := of_decide_eq_true h
    have hi7 : 0 ≤ (i : Int) ∧ (i : Int) < 7 := ⟨by omega, h⟩
    have hvi := hv i (by simp only at h; omega)
    have hw : IntKind.i64.wrap ((i : Int) + 1) = ((i + 1 : Nat) : Int) := wrap64 (by omega)
    have hg : (vcells v)[(i : Int).toNat * 1]? = some (iv (v (i : Int).toNat)) := by have := vcells_get' v hi7 []; simpa using this
    refine And.intro hi7 (Exists.intro _ (And.intro hg ?_))
    refine VCall.mk [1] (s_pack_Num (l ++ vecB v i) xs2 T_uint8 o2 c2 hB (by rw [List.length_append]; omega) (v (i : Int).toNat) (by rw [Int.toNat_natCast]; omega)) ⟨rfl, rfl, rfl⟩ ?_
    rintro _ _ ⟨o', c', ys, rfl, rfl, hB'⟩
    refine Exists.intro _ (And.intro hw ?_)
    refine Exists.intro (some ⟨ys, o', c', l ++ vecB v i ++ Go.V.numB (2 * (v (i : Int).toNat).toNat), i + 1⟩) (Exists.intro [0, 2] (And.intro ⟨⟨hB', ?_, by show i + 1 ≤ 7; simp only at h; omega⟩, ?_⟩ ⟨rfl, rfl, rfl⟩))
    · rw [Int.toNat_natCast, List.append_assoc]; rfl
    · show 7 - (i + 1) < 7 - i; simp only at h; omega
  · have h := of_decide_eq_false h
    have h7 : i = 7 := by simp only at h; omega
    subst h7
    exact VRet.mk [0, 1] (.sl 1 o2 (l ++ vecB v 7).length c2) [.arr xs te, .arr xs2 T_uint8] ⟨rfl, rfl, rfl⟩ ⟨o2, c2, xs2, rfl, rfl, hB⟩
end Go.Proofs

namespace Go.Proofs
open Go Go.V Go.Lib
set_option maxRecDepth 100000
set_option linter.unusedVariables false

theorem s_pack_Bytes (l m : List Int) (xs zs : List Value) (te te2 : TypeId) (o c o2 c2 : Nat) (hb : Brow xs o c l) (hb2 : Brow zs o2 c2 m) (hl : l.length ≤ 8000000) (hm : m.length ≤ 500000) :
    Ctr Tryd.prog F_pack_Bytes [.sl 0 o l.length c, .sl 1 o2 m.length c2] [.arr xs te, .arr zs te2]
      (fun x H => ∃ o' c' ys, x = .sl 2 o' (l ++ Go.V.numB (2 * m.length) ++ m).length c' ∧ H = [.arr xs te, .arr zs te2, .arr ys T_uint8] ∧ Brow ys o' c' (l ++ Go.V.numB (2 * m.length) ++ m)) := by
  refine i_pack_Bytes.spec follows ?_
  have hn := numB_len10 (u := 2 * m.length) (by omega)
  have hN := s_pack_Num l xs te o c hb (by omega) (m.length : Int) (by omega)
  rw [Int.toNat_natCast] at hN
  refine VCall.mk [0] hN ⟨rfl, rfl, rfl⟩ ?_
  rintro _ _ ⟨o1, c1, ys1, rfl, rfl, hb1⟩
  have hlen : (l ++ Go.V.numB (2 * m.length)).length ≤ 8000010 := by rw [List.length_append]; omega
  refine And.intro ⟨⟨hb1.1, by have := hb1.2.1; simpa using this, rfl⟩, ⟨?_, ?_⟩, by omega⟩ ?_
  · rw [hb2.take1]; simp
  · rw [hb2.take1]; exact cellsOK_ints m
  intro zs' o' c' hz
  refine VRet.mk [0, 1, 3] (.sl 2 o' ((l ++ Go.V.numB (2 * m.length)).length + m.length) c') [.arr xs te, .arr zs te2, .arr zs' T_uint8] ⟨rfl, rfl, rfl⟩ ⟨o', c', zs', ?_, rfl, ?_, ?_, ?_⟩
  · rw [List.length_append (bs := m)]
  · have := hz.1; rw [List.length_append (bs := m)]; exact this
  · have := hz.2.1; simpa using this
  · have := hz.2.2
    rw [hb2.take1, hb1.take1, Nat.mul_one] at this
    rw [List.length_append (bs := m), List.map_append (l₂ := m)]
    exact this
def strL (s : ByteArray) : List Int := s.data.toList.map fun b => (b.toNat : Int)
theorem strL_len (s : ByteArray) : (strL s).length = s.size := by simp [strL]
def textB (s : ByteArray) : List Int := Go.V.numB (2 * s.size) ++ strL s
theorem s_pack_Text (l : List Int) (s : ByteArray) (xs : List Value) (te : TypeId) (o c : Nat) (hb : Brow xs o c l) (hl : l.length ≤ 8000000) (hs : s.size ≤ 1000) :
    Ctr Tryd.prog F_pack_Text [.sl 0 o l.length c, .raw (.string s)] [.arr xs te]
      (fun x H => ∃ o' c' ys, x = .sl 1 o' (l ++ textB s).length c' ∧ H = [.arr xs te, .arr ys T_uint8] ∧ Brow ys o' c' (l ++ textB s)) := by
  refine i_pack_Text.spec follows ?_
  refine fun cp hcp => ?_
  have hbs : Brow (s.data.toList.map (fun b => Value.int .u8 b.toNat) ++ List.replicate (cp - s.size) (.int .u8 0)) 0 cp (strL s) := by
    refine ⟨by rw [strL_len]; exact hcp, ?_, ?_⟩
    · have : s.data.toList.length = s.size := by simp
      simp only [List.length_append, List.length_map, List.length_replicate]; omega
    · rw [List.drop_zero, strL_len]
      have : (s.data.toList.map (fun b => Value.int .u8 b.toNat)).length = s.size := by simp
      rw [List.take_append_of_le_length (by omega), List.take_of_length_le (by omega), strL, List.map_map]
      rfl
  have hB := s_pack_Bytes l (strL s) xs _ te T_uint8 o c 0 cp hb hbs hl (by rw [strL_len]; omega)
  rw [strL_len] at hB
  refine VCall.mk [0, 1] hB ⟨rfl, rfl, rfl⟩ ?_
  rintro _ _ ⟨o1, c1, ys1, rfl, rfl, hb1⟩
  rw [List.append_assoc] at hb1
  refine VRet.mk [0, 2] (.sl 1 o1 (l ++ Go.V.numB (2 * s.size) ++ strL s).length c1) [.arr xs te, .arr ys1 T_uint8] ⟨rfl, rfl, rfl⟩ ⟨o1, c1, ys1, ?_, rfl, hb1⟩
  rw [List.append_assoc]; rfl
end Go.Proofs

namespace Go.Proofs
open Go Go.V Go.Lib
set_option maxRecDepth 100000
set_option linter.unusedVariables false

/-! ### A step's bytes -/
def zB (v : Int) : List Int := Go.V.numB (2 * v.toNat)
/-- What holds of a step that was taken: all its numbers are small. -/
structure Sm (s : ST) : Prop where
  k : 0 ≤ s.kind ∧ s.kind ≤ 7
  r : 0 ≤ s.rep ∧ s.rep ≤ 6
  n : 0 ≤ s.n ∧ s.n ≤ 1099511627776
  v : ∀ r, r < 7 → 0 ≤ s.seen r ∧ s.seen r ≤ 1099511627776
  reds : 0 ≤ s.reds ∧ s.reds ≤ 1000
  nm : s.name.size ≤ 1000
  us : s.user.size ≤ 1000
  ar : 0 ≤ s.ar ∧ s.ar ≤ 6
  an : 0 ≤ s.an ∧ s.an ≤ 1099511627776
  br : 0 ≤ s.br ∧ s.br ≤ 6
  bn : 0 ≤ s.bn ∧ s.bn ≤ 1099511627776
  am : 0 ≤ s.amount ∧ s.amount ≤ 1000000000
  fu : 0 ≤ s.funds ∧ s.funds ≤ 1125899906842624
theorem point_sm {r n : Int} {b : Bool} (h : pointB r n b = true) : (0 ≤ r ∧ r ≤ 6) ∧ 0 ≤ n ∧ n ≤ 1099511627776 := by
  cases b <;> simp [pointB, isDot, isRep] at h <;> omega
theorem num_sm {n lo hi : Int} {b : Bool} (h : numB n lo hi b = true) (h0 : 0 ≤ lo) (h1 : lo ≤ hi) : 0 ≤ n ∧ n ≤ hi := by
  cases b <;> simp [numB] at h <;> omega
theorem good_sm {s : ST} (h : goodT s = true) (h1 : s.name.size ≤ 1000) (h2 : s.user.size ≤ 1000) : Sm s := by
  have hd := good_dot h
  simp only [goodT, headT, partT, Bool.and_eq_true, decide_eq_true_eq] at h
  obtain ⟨⟨a1, a2, a3, a4, a5, a6⟩, _, b1, b2, b3, b4, b5, b6⟩ := h
  have p1 := point_sm b3
  have p2 := point_sm b4
  exact ⟨by omega, by omega, by omega, fun r hr => vgood_iff.1 a4 r hr, ⟨a5, a6⟩, h1, h2, p1.1, p1.2, p2.1, p2.2, num_sm b5 (by omega) (by omega), num_sm b6 (by omega) (by omega)⟩
def putB (s : ST) : List Int := zB s.kind ++ (zB s.rep ++ (zB s.n ++ (vecB s.seen 7 ++ (zB s.reds ++ (textB s.name ++ (textB s.user ++ (zB s.ar ++ (zB s.an ++ (zB s.br ++ (zB s.bn ++ (zB s.amount ++ zB s.funds)))))))))))
theorem zB_len {v : Int} (h : v < 4611686018427387904) : (zB v).length ≤ 10 := numB_len10 (by omega)
theorem textB_len {s : ByteArray} (h : s.size ≤ 1000) : (textB s).length ≤ 1010 := by
  rw [textB, List.length_append, strL_len]
  have := numB_len10 (u := 2 * s.size) (by omega)
  omega
theorem putB_len {s : ST} (h : Sm s) : (putB s).length ≤ 2200 := by
  have h1 := zB_len (v := s.kind) (by have := h.k; omega)
  have h2 := zB_len (v := s.rep) (by have := h.r; omega)
  have h3 := zB_len (v := s.n) (by have := h.n; omega)
  have h4 := vecB_len h.v 7 (by omega)
  have h5 := zB_len (v := s.reds) (by have := h.reds; omega)
  have h6 := textB_len h.nm
  have h7 := textB_len h.us
  have h8 := zB_len (v := s.ar) (by have := h.ar; omega)
  have h9 := zB_len (v := s.an) (by have := h.an; omega)
  have h10 := zB_len (v := s.br) (by have := h.br; omega)
  have h11 := zB_len (v := s.bn) (by have := h.bn; omega)
  have h12 := zB_len (v := s.amount) (by have := h.am; omega)
  have h13 := zB_len (v := s.funds) (by have := h.fu; omega)
  simp only [putB, List.length_append]
  omega
def ptsB (s : ST) : Nat → List Int
  | 0 => []
  | 1 => zB s.ar ++ zB s.an
  | _ => zB s.ar ++ zB s.an ++ (zB s.br ++ zB s.bn)
theorem s_auct_put (l : List Int) (xs : List Value) (te : TypeId) (o c : Nat) (hb : Brow xs o c l) (hl : l.length ≤ 7000000) (s : ST) (hs : Sm s) :
    Ctr Tryd.prog F_auct_put [.sl 0 o l.length c, .agg (stcells s)] [.arr xs te] (fun x H => ∃ o' c' ys, x = .sl 1 o' (l ++ putB s).length c' ∧ H = [.arr xs te, .arr ys T_uint8] ∧ Brow ys o' c' (l ++ putB s)) := by
  have h1 := zB_len (v := s.kind) (by have := hs.k; omega)
  have h2 := zB_len (v := s.rep) (by have := hs.r; omega)
  have h3 := zB_len (v := s.n) (by have := hs.n; omega)
  have h4 := vecB_len hs.v 7 (by omega)
  have h5 := zB_len (v := s.reds) (by have := hs.reds; omega)
  have h6 := textB_len hs.nm
  have h7 := textB_len hs.us
  refine i_auct_put.spec follows ?_
  refine VCall.mk [0] (s_pack_Num l xs te o c hb (by omega) s.kind (by have := hs.k; omega)) ⟨rfl, rfl, rfl⟩ ?_
  rintro _ _ ⟨o1, c1, y1, rfl, rfl, b1⟩
  refine And.intro rfl ?_
  refine And.intro rfl ?_
  refine VCall.mk [2] (s_pack_Num (l ++ zB s.kind) y1 T_uint8 o1 c1 b1 (by simp only [List.length_append]; omega) s.rep (by have := hs.r; omega)) ⟨rfl, rfl, rfl⟩ ?_
  rintro _ _ ⟨o2, c2, y2, rfl, rfl, b2⟩
  refine And.intro rfl ?_
  refine VCall.mk [3] (s_pack_Num ((l ++ zB s.kind) ++ zB s.rep) y2 T_uint8 o2 c2 b2 (by simp only [List.length_append]; omega) s.n (by have := hs.n; omega)) ⟨rfl, rfl, rfl⟩ ?_
  rintro _ _ ⟨o3, c3, y3, rfl, rfl, b3⟩
  refine VCall.mk [4] (s_vec_Put (((l ++ zB s.kind) ++ zB s.rep) ++ zB s.n) y3 T_uint8 o3 c3 b3 (by simp only [List.length_append]; omega) s.seen hs.v) ⟨rfl, rfl, rfl⟩ ?_
  rintro _ _ ⟨o4, c4, y4, rfl, rfl, b4⟩
  refine And.intro rfl ?_
  refine VCall.mk [5] (s_pack_Num ((((l ++ zB s.kind) ++ zB s.rep) ++ zB s.n) ++ vecB s.seen 7) y4 T_uint8 o4 c4 b4 (by simp only [List.length_append]; omega) s.reds (by have := hs.reds; omega)) ⟨rfl, rfl, rfl⟩ ?_
  rintro _ _ ⟨o5, c5, y5, rfl, rfl, b5⟩
  refine VCall.mk [6] (s_pack_Text (((((l ++ zB s.kind) ++ zB s.rep) ++ zB s.n) ++ vecB s.seen 7) ++ zB s.reds) s.name y5 T_uint8 o5 c5 b5 (by simp only [List.length_append]; omega) hs.nm) ⟨rfl, rfl, rfl⟩ ?_
  rintro _ _ ⟨o6, c6, y6, rfl, rfl, b6⟩
  refine And.intro rfl ?_
  refine VCall.mk [7] (s_pack_Text ((((((l ++ zB s.kind) ++ zB s.rep) ++ zB s.n) ++ vecB s.seen 7) ++ zB s.reds) ++ textB s.name) s.user y6 T_uint8 o6 c6 b6 (by simp only [List.length_append]; omega) hs.us) ⟨rfl, rfl, rfl⟩ ?_
  rintro _ _ ⟨o7, c7, y7, rfl, rfl, b7⟩
  have hL0 : ((((((((l ++ zB s.kind) ++ zB s.rep) ++ zB s.n) ++ vecB s.seen 7) ++ zB s.reds) ++ textB s.name) ++ textB s.user)).length ≤ l.length + 2130 := by simp only [List.length_append]; omega
  have hcur : ∃ L0, L0 = (((((((l ++ zB s.kind) ++ zB s.rep) ++ zB s.n) ++ vecB s.seen 7) ++ zB s.reds) ++ textB s.name) ++ textB s.user) := ⟨_, rfl⟩
  refine VLoop.mk BX (fun y => [(0, .sl 3 y.o y.l.length y.c), (3, .ptr 1 0), (37, .sl 2 0 2 2), (38, iv 2), (39, iv (y.u : Nat))])
    (fun y => [.arr xs te, .cells (stcells s) T_auct_Step, .arr [.int .i64 s.ar, .int .i64 s.an, .int .i64 s.br, .int .i64 s.bn] T_api_Dot, .arr y.xs T_uint8])
    (fun y => Brow y.xs y.o y.c y.l ∧ y.u ≤ 2 ∧ y.l = (((((((l ++ zB s.kind) ++ zB s.rep) ++ zB s.n) ++ vecB s.seen 7) ++ zB s.reds) ++ textB s.name) ++ textB s.user) ++ ptsB s y.u) (fun y => 2 - y.u) ⟨y7, o7, c7, (((((((l ++ zB s.kind) ++ zB s.rep) ++ zB s.n) ++ vecB s.seen 7) ++ zB s.reds) ++ textB s.name) ++ textB s.user), 0⟩ [0, 1, 9, 8]
    ⟨⟨b7, Nat.zero_le _, by simp [ptsB]⟩, rfl, rfl, rfl⟩ ?_
  have hp1 := zB_len (v := s.ar) (by have := hs.ar; omega)
  have hp2 := zB_len (v := s.an) (by have := hs.an; omega)
  have hp3 := zB_len (v := s.br) (by have := hs.br; omega)
  have hp4 := zB_len (v := s.bn) (by have := hs.bn; omega)
  clear b1 b2 b3 b4 b5 b6 b7
  rintro ⟨ys, o8, c8, l8, i⟩ ⟨hb8, hi, hl8⟩ g
  simp only at hb8 hi hl8
  have hll := congrArg List.length hl8
  match i, hi with
  | 0, _ =>
    have hll : l8.length ≤ l.length + 2130 := by rw [hll, List.length_append]; simp only [ptsB, List.length_nil, List.length_append]; omega
    refine And.intro (fun _ => ?_) (fun h => absurd h (show ¬ decide (((0 : Nat) : Int) < 2) = false by decide))
    refine And.intro ⟨show (0 : Int) ≤ ((0 : Nat) : Int) by decide, show ((0 : Nat) : Int) < ((2 : Nat) : Int) by decide, Nat.le_refl 4⟩ (Exists.intro _ (And.intro rfl ?_))
    refine VCall.mk [3] (s_pack_Num l8 ys T_uint8 o8 c8 hb8 (by omega) s.ar (by have := hs.ar; omega)) ⟨rfl, rfl, rfl⟩ ?_
    rintro _ _ ⟨o9, c9, y9, rfl, rfl, b9⟩
    refine And.intro rfl ?_
    refine VCall.mk [5] (s_pack_Num (l8 ++ zB s.ar) y9 T_uint8 o9 c9 b9 (by rw [List.length_append]; omega) s.an (by have := hs.an; omega)) ⟨rfl, rfl, rfl⟩ ?_
    rintro _ _ ⟨o10, c10, y10, rfl, rfl, b10⟩
    refine Exists.intro _ (And.intro (show IntKind.i64.wrap (((0 : Nat) : Int) + 1) = ((1 : Nat) : Int) by decide) ?_)
    refine Exists.intro ⟨y10, o10, c10, l8 ++ zB s.ar ++ zB s.an, 1⟩ (Exists.intro [0, 1, 2, 6] (And.intro ⟨⟨b10, show 1 ≤ 2 by decide, ?_⟩, show 2 - 1 < 2 - 0 by decide⟩ ⟨rfl, rfl, rfl⟩))
    simp only
    rw [hl8]
    simp only [ptsB, List.append_assoc, List.append_nil, List.nil_append]
  | 1, _ =>
    have hll : l8.length ≤ l.length + 2150 := by rw [hll, List.length_append]; simp only [ptsB, List.length_nil, List.length_append]; omega
    refine And.intro (fun _ => ?_) (fun h => absurd h (show ¬ decide (((1 : Nat) : Int) < 2) = false by decide))
    refine And.intro ⟨show (0 : Int) ≤ ((1 : Nat) : Int) by decide, show ((1 : Nat) : Int) < ((2 : Nat) : Int) by decide, Nat.le_refl 4⟩ (Exists.intro _ (And.intro rfl ?_))
    refine VCall.mk [3] (s_pack_Num l8 ys T_uint8 o8 c8 hb8 (by omega) s.br (by have := hs.br; omega)) ⟨rfl, rfl, rfl⟩ ?_
    rintro _ _ ⟨o9, c9, y9, rfl, rfl, b9⟩
    refine And.intro rfl ?_
    refine VCall.mk [5] (s_pack_Num (l8 ++ zB s.br) y9 T_uint8 o9 c9 b9 (by rw [List.length_append]; omega) s.bn (by have := hs.bn; omega)) ⟨rfl, rfl, rfl⟩ ?_
    rintro _ _ ⟨o10, c10, y10, rfl, rfl, b10⟩
    refine Exists.intro _ (And.intro (show IntKind.i64.wrap (((1 : Nat) : Int) + 1) = ((2 : Nat) : Int) by decide) ?_)
    refine Exists.intro ⟨y10, o10, c10, l8 ++ zB s.br ++ zB s.bn, 2⟩ (Exists.intro [0, 1, 2, 6] (And.intro ⟨⟨b10, show 2 ≤ 2 by decide, ?_⟩, show 2 - 2 < 2 - 1 by decide⟩ ⟨rfl, rfl, rfl⟩))
    simp only
    rw [hl8]
    simp only [ptsB, List.append_assoc, List.append_nil, List.nil_append]
  | 2, _ =>
    have hll : l8.length ≤ l.length + 2170 := by rw [hll, List.length_append]; simp only [ptsB, List.length_append]; omega
    have hp5 := zB_len (v := s.amount) (by have := hs.am; omega)
    refine And.intro (fun h => absurd h (show ¬ decide (((2 : Nat) : Int) < 2) = true by decide)) (fun _ => ?_)
    refine VCall.mk [3] (s_pack_Num l8 ys T_uint8 o8 c8 hb8 (by omega) s.amount (by have := hs.am; omega)) ⟨rfl, rfl, rfl⟩ ?_
    rintro _ _ ⟨o9, c9, y9, rfl, rfl, b9⟩
    refine And.intro rfl ?_
    refine VCall.mk [4] (s_pack_Num (l8 ++ zB s.amount) y9 T_uint8 o9 c9 b9 (by rw [List.length_append]; omega) s.funds (by have := hs.fu; omega)) ⟨rfl, rfl, rfl⟩ ?_
    rintro _ _ ⟨o10, c10, y10, rfl, rfl, b10⟩
    have e : l8 ++ zB s.amount ++ zB s.funds = l ++ putB s := by
      rw [hl8]
      simp only [ptsB, putB, List.append_assoc]
    have b11 : Brow y10 o10 c10 (l8 ++ zB s.amount ++ zB s.funds) := b10
    rw [e] at b11
    refine VRet.mk [0, 5] (.sl 1 o10 (l8 ++ zB s.amount ++ zB s.funds).length c10) [.arr xs te, .arr y10 T_uint8] ⟨rfl, rfl, rfl⟩ ⟨o10, c10, y10, by rw [e], rfl, b11⟩
end Go.Proofs

namespace Go.Proofs
open Go Go.V Go.Lib
set_option maxRecDepth 100000
set_option linter.unusedVariables false

/-! ### A house's bytes -/
def keysF (x : HL) : List (Int × Int) := sortD (x.bs.map (·.1))
def stAt (x : HL) (d : Int × Int) : ST := (MP.get x.bs d).getD zeroT'
def bytesH (x : HL) : List Int := zB ((keysF x).length : Nat) ++ (keysF x).flatMap (fun d => putB (stAt x d)) ++ zB (x.red.length : Nat) ++ x.red.flatMap putB
theorem sm_zero : Sm zeroT' := by
  refine ⟨?_, ?_, ?_, fun r _ => (show (0 : Int) ≤ 0 ∧ (0 : Int) ≤ 1099511627776 by decide), ?_, ?_, ?_, ?_, ?_, ?_, ?_, ?_, ?_⟩ <;> first | (exact ⟨by decide, by decide⟩) | decide
theorem flat_len {α : Type} {f : α → List Int} : ∀ {l : List α}, (∀ a, a ∈ l → (f a).length ≤ 2200) → (l.flatMap f).length ≤ 2200 * l.length
  | [], _ => by simp
  | a :: l, h => by
    have h1 := h a (by simp)
    have h2 := flat_len (f := f) (l := l) (fun b hb => h b (by simp [hb]))
    rw [List.flatMap_cons, List.length_append, List.length_cons]
    omega
theorem flat_take {α : Type} {f : α → List Int} {l : List α} {i : Nat} (hi : i < l.length) : (l.take (i + 1)).flatMap f = (l.take i).flatMap f ++ f l[i] := by
  rw [← List.take_append_getElem hi, List.flatMap_append]; simp
structure BXX where
  pre : MB
  seen : List Nat
  n : Nat
  xs : List Value
  o : Nat
  c : Nat
theorem s_Bytes (x : HL) (N : Nat) (hx : HI x N) (hN : N ≤ 1000) (hsb : ∀ d, Sm (stAt x d)) (hsr : ∀ s, s ∈ x.red → Sm s) (rx : List Value) (ro rc : Nat) (hr : RowG stcl 19 rx ro rc x.red) :
    Ctr Tryd.prog F_auct_House_Bytes [.ptr 0 0] (hoH x rx ro rc)
      (fun r H => ∃ o c ys, r = .sl 6 o (bytesH x).length c ∧ H = hoH x rx ro rc ++ [.arr ys T_uint8] ∧ Brow ys o c (bytesH x)) := by
  have hxl := hx.bl
  have hrl := hx.rl
  refine i_auct_House_Bytes.spec follows ?_
  refine VLoop.nil T_api_Dot [3] [] ⟨rfl, rfl⟩ ?_
  refine VLoop.mk BXX (fun y => [(0, .ptr 0 0), (3, .sl 7 y.o y.n y.c), (14, .ptr 6 0)]) (fun y => hoH x rx ro rc ++ [.iter (some 1) x.bc y.seen x.bc, .arr y.xs T_api_Dot]) (fun y => Been x.bs y.pre y.seen ∧ y.n = y.pre.length ∧ RowG dcl 2 y.xs y.o y.c (y.pre.map (·.1))) (fun y => x.bs.length - y.pre.length) ⟨[], [], 0, [], 0, 0⟩ [0, 1, 2, 3, 4, 5, 6, 7]
    ⟨⟨Been.nil _, rfl, ⟨Nat.le_refl _, by simp, by simp⟩⟩, rfl, rfl, rfl⟩ ?_
  rintro ⟨pre, seen, n, xs, o, c⟩ ⟨h1, hn, hrw⟩ g
  simp only at h1 hn hrw
  refine And.intro ⟨fun e he => ?_, Nat.le_refl _⟩ (And.intro (fun hall => ?_) (fun e he hns => ?_))
  · obtain ⟨y, hy, rfl⟩ := List.mem_map.1 he
    exact hx.b.1 y hy
  · have hsub : ∀ y, y ∈ x.bs → y ∈ pre := fun y hy => h1.all hx.b.2 hy (hall _ (List.mem_map.2 ⟨y, hy, rfl⟩))
    have hpn : pre.Nodup := by have := h1.nd; rw [h1.eq] at this; exact nodup_of_map _ this
    have hp : pre.Perm x.bs := (List.perm_ext_iff_of_nodup hpn (nodup_of_map _ hx.bk)).2 fun a => ⟨h1.sub a, hsub a⟩
    have hpl := hp.length_eq
    subst hn
    have hS := s_SortFunc (pre.map (·.1)) xs o c hrw (by rw [List.length_map]; omega)
    rw [List.length_map] at hS
    refine VCall.mk [7] hS ⟨rfl, rfl, rfl⟩ ?_
    rintro _ _ ⟨d', xs', rfl, rfl, hp', hs, hr'⟩
    have hd : d' = keysF x := cmp_srt hx.bk (hp'.trans (hp.map _)) hs
    subst hd
    have hkl : (keysF x).length = pre.length := by rw [hp'.length_eq, List.length_map]
    rw [← hkl]
    have hN0 := s_pack_Num [] [] T_uint8 0 0 brow_nil (Nat.zero_le _) ((keysF x).length : Nat) (by omega)
    refine VCall.nil T_uint8 [0] [] ⟨rfl, rfl⟩ ?_
    refine VCall.mk [8] hN0 ⟨rfl, rfl, rfl⟩ ?_
    rintro _ _ ⟨o1, c1, y1, rfl, rfl, b1⟩
    have hfl : ∀ i, i ≤ (keysF x).length → (((keysF x).take i).flatMap fun d => putB (stAt x d)).length ≤ 2200000 := fun i hi => by
      have h3 := flat_len (f := fun d => putB (stAt x d)) (l := (keysF x).take i) (fun d _ => putB_len (hsb d))
      rw [List.length_take] at h3
      have h4 : min i (keysF x).length ≤ 1000 := by omega
      omega
    have hz0 := zB_len (v := ((keysF x).length : Nat)) (by omega)
    have b1' : Brow y1 o1 c1 (zB ((keysF x).length : Nat)) := b1
    refine VLoop.mk BX (fun y => [(0, .ptr 0 0), (5, .sl 7 y.o y.l.length y.c), (28, .sl 6 o (keysF x).length c), (29, iv (keysF x).length), (30, iv (y.u : Nat))])
      (fun y => hoH x rx ro rc ++ [.arr xs' T_api_Dot, .arr y.xs T_uint8]) (fun y => Brow y.xs y.o y.c y.l ∧ y.u ≤ (keysF x).length ∧ y.l = zB ((keysF x).length : Nat) ++ ((keysF x).take y.u).flatMap fun d => putB (stAt x d)) (fun y => (keysF x).length - y.u) ⟨y1, o1, c1, zB ((keysF x).length : Nat), 0⟩ [0, 1, 2, 3, 4, 5, 7, 9]
      ⟨⟨b1', Nat.zero_le _, by simp⟩, rfl, rfl, rfl⟩ ?_
    rintro ⟨y2, o2, c2, l2, i⟩ ⟨b2, hi, hl2⟩ g2
    simp only at b2 hi hl2
    have hl2n : l2.length ≤ 2200010 := by rw [hl2, List.length_append]; have := hfl i hi; omega
    refine And.intro (fun t1 => ?_) (fun t1 => ?_)
    · have t1 : (i : Int) < ((keysF x).length : Nat) := of_decide_eq_true t1
      have hil : i < (keysF x).length := by omega
      have hwi : IntKind.i64.wrap ((i : Int) + 1) = ((i + 1 : Nat) : Int) := wrap64 (by omega)
      have ci := hr'.cut (fun _ => rfl) hil
      have hroom : o + (keysF x).length * 2 ≤ xs'.length := by have := hr'.2.1; have := Nat.mul_le_mul_right 2 hr'.1; omega
      refine And.intro ⟨Int.natCast_nonneg i, t1, hroom⟩ (Exists.intro _ (And.intro (by rw [Int.toNat_natCast]; exact ci) ?_))
      refine Exists.intro (.agg (stcells (stAt x ((keysF x)[i].1, (keysF x)[i].2)))) (Exists.intro _ (Exists.intro _ (And.intro (lookB x.bs ((keysF x)[i].1, (keysF x)[i].2)) (And.intro rfl ?_))))
      refine VCall.mk [7] (s_auct_put l2 y2 T_uint8 o2 c2 b2 (by omega) (stAt x (keysF x)[i]) (hsb _)) ⟨rfl, rfl, rfl⟩ ?_
      rintro _ _ ⟨o3, c3, y3, rfl, rfl, b3⟩
      refine Exists.intro _ (And.intro hwi ?_)
      refine Exists.intro ⟨y3, o3, c3, l2 ++ putB (stAt x (keysF x)[i]), i + 1⟩ (Exists.intro [0, 1, 2, 3, 4, 5, 6, 9] (And.intro ⟨⟨b3, hil, ?_⟩, by simp only; omega⟩ ⟨rfl, rfl, rfl⟩))
      simp only
      rw [flat_take hil, hl2, List.append_assoc]
    · have hil : i = (keysF x).length := by have t1 := of_decide_eq_false t1; simp only at t1; omega
      subst hil
      rw [List.take_length] at hl2
      have hz1 := zB_len (v := (x.red.length : Nat)) (by omega)
      have hfr : ∀ i, i ≤ x.red.length → ((x.red.take i).flatMap putB).length ≤ 2200000 := fun i hi => by
        have h3 := flat_len (f := putB) (l := x.red.take i) (fun s hs => putB_len (hsr s (List.mem_of_mem_take hs)))
        rw [List.length_take] at h3
        have h4 : min i x.red.length ≤ 1000 := by omega
        omega
      refine VCall.mk [7] (s_pack_Num l2 y2 T_uint8 o2 c2 b2 (by omega) (x.red.length : Nat) (by omega)) ⟨rfl, rfl, rfl⟩ ?_
      rintro _ _ ⟨o4, c4, y4, rfl, rfl, b4⟩
      have b4' : Brow y4 o4 c4 (l2 ++ zB (x.red.length : Nat)) := b4
      refine VLoop.mk BX (fun y => [(5, .sl 6 y.o y.l.length y.c), (53, .sl 5 ro x.red.length rc), (54, iv x.red.length), (55, iv (y.u : Nat))])
        (fun y => hoH x rx ro rc ++ [.arr y.xs T_uint8]) (fun y => Brow y.xs y.o y.c y.l ∧ y.u ≤ x.red.length ∧ y.l = l2 ++ zB (x.red.length : Nat) ++ (x.red.take y.u).flatMap putB) (fun y => x.red.length - y.u) ⟨y4, o4, c4, l2 ++ zB (x.red.length : Nat), 0⟩ [0, 1, 2, 3, 4, 5, 8]
        ⟨⟨b4', Nat.zero_le _, by simp⟩, rfl, rfl, rfl⟩ ?_
      rintro ⟨y5, o5, c5, l5, j⟩ ⟨b5, hj, hl5⟩ g3
      simp only at b5 hj hl5
      have hl5n : l5.length ≤ 4500000 := by rw [hl5, List.length_append, List.length_append]; have := hfr j hj; omega
      refine And.intro (fun t2 => ?_) (fun t2 => ?_)
      · have t2 : (j : Int) < (x.red.length : Nat) := of_decide_eq_true t2
        have hjl : j < x.red.length := by omega
        have hwj : IntKind.i64.wrap ((j : Int) + 1) = ((j + 1 : Nat) : Int) := wrap64 (by omega)
        have cj := hr.cut (fun _ => rfl) hjl
        have hroom : ro + x.red.length * 19 ≤ rx.length := by have := hr.2.1; have := Nat.mul_le_mul_right 19 hr.1; omega
        refine And.intro ⟨Int.natCast_nonneg j, t2, hroom⟩ (Exists.intro _ (And.intro (by rw [Int.toNat_natCast]; exact cj) ?_))
        refine VCall.mk [6] (s_auct_put l5 y5 T_uint8 o5 c5 b5 (by omega) x.red[j] (hsr _ (List.getElem_mem hjl))) ⟨rfl, rfl, rfl⟩ ?_
        rintro _ _ ⟨o6, c6, y6, rfl, rfl, b6⟩
        refine Exists.intro _ (And.intro hwj ?_)
        refine Exists.intro ⟨y6, o6, c6, l5 ++ putB x.red[j], j + 1⟩ (Exists.intro [0, 1, 2, 3, 4, 5, 8] (And.intro ⟨⟨b6, hjl, ?_⟩, by simp only; omega⟩ ⟨rfl, rfl, rfl⟩))
        simp only
        rw [flat_take hjl, hl5, List.append_assoc]
      · have hjl : j = x.red.length := by have t2 := of_decide_eq_false t2; simp only at t2; omega
        subst hjl
        rw [List.take_length] at hl5
        have e : l5 = bytesH x := by rw [hl5, hl2]; rfl
        subst e
        exact VRet.mk [0, 1, 2, 3, 4, 5, 6] (.sl 6 o5 (bytesH x).length c5) (hoH x rx ro rc ++ [.arr y5 T_uint8]) ⟨rfl, rfl, rfl⟩ ⟨o5, c5, y5, rfl, rfl, b5⟩
  · obtain ⟨y, hy, rfl⟩ := List.mem_map.1 he
    have hns : y.2.2 ∉ seen := hns
    have hlen : x.bs.length - (pre ++ [y]).length < x.bs.length - pre.length := by classical exact h1.len hy hns
    have hmore := h1.more hy hns
    refine Exists.intro y.2.2 (Exists.intro (ent encD encST y) (And.intro (last_snoc _ _) (And.intro (find_ents hx.b.2 hy) (And.intro rfl ?_))))
    have hnb : (n + 1) * 16 ≤ 1099511627776 := by omega
    refine And.intro ⟨⟨by rw [hn]; have := hrw.1; rw [List.length_map] at this; exact this, hrw.2.1, rfl⟩, ⟨rfl, rfl⟩, hnb⟩ ?_
    intro xs' o' c' hz
    refine Exists.intro ⟨pre ++ [y], seen ++ [y.2.2], n + 1, xs', o', c'⟩ (Exists.intro [0, 1, 2, 3, 4, 5, 6, 10] (And.intro ⟨⟨hmore, by simp only; rw [hn, List.length_append]; rfl, ?_⟩, hlen⟩ ⟨rfl, rfl, rfl⟩))
    simp only [List.map_append, List.map_cons, List.map_nil]
    exact RowG.snoc hrw (by rw [List.length_map]; exact hn) hz.1 hz.2.1 hz.2.2
end Go.Proofs

namespace Go.Proofs
open Go Go.V Go.Lib
set_option maxRecDepth 100000
set_option linter.unusedVariables false

def strOf (l : List Int) : ByteArray := ⟨(l.map fun n => UInt8.ofNat n.toNat).toArray⟩
theorem strOf_size (l : List Int) : (strOf l).size = l.length := by simp [strOf, ByteArray.size]
theorem strOf_cells {l : List Int} (h : ∀ b ∈ l, 0 ≤ b ∧ b < 256) : (strOf l).data.toList.map (fun b => Value.int .u8 b.toNat) = l.map (Value.int .u8) := by
  simp only [strOf, List.map_map]
  apply List.map_congr_left
  intro b hb
  have := h b hb
  show Value.int .u8 ((UInt8.ofNat b.toNat).toNat : Int) = _
  congr 1
  rw [UInt8.toNat_ofNat']
  omega
def Byt (l : List Int) : Prop := ∀ b, b ∈ l → 0 ≤ b ∧ b < 256
theorem Byt.app {l m : List Int} (h : Byt l) (h2 : Byt m) : Byt (l ++ m) := fun b hb => by
  rcases List.mem_append.1 hb with k | k
  · exact h b k
  · exact h2 b k
theorem Byt.flat {α : Type} {f : α → List Int} {l : List α} (h : ∀ a, a ∈ l → Byt (f a)) : Byt (l.flatMap f) := fun b hb => by
  obtain ⟨a, h1, h2⟩ := List.mem_flatMap.1 hb
  exact h a h1 b h2
theorem numB_byt (u : Nat) : Byt (Go.V.numB u) := by
  induction u using Nat.strongRecOn with
  | _ u ih =>
    intro b hb
    by_cases h : u < 128
    · rw [numB_lt h] at hb
      have hb := List.mem_singleton.1 hb
      omega
    · rw [numB_ge h] at hb
      rcases List.mem_cons.1 hb with k | k
      · omega
      · exact ih (u / 128) (by omega) b k
theorem textB_byt (s : ByteArray) : Byt (textB s) := Byt.app (numB_byt _) fun b hb => by
  obtain ⟨x, _, rfl⟩ := List.mem_map.1 hb
  have := x.toNat_lt
  omega
theorem vecB_byt (v : Nat → Int) : ∀ n, Byt (vecB v n)
  | 0 => fun b hb => by simp [vecB] at hb
  | n + 1 => (vecB_byt v n).app (numB_byt _)
theorem putB_byt (s : ST) : Byt (putB s) :=
  (numB_byt _).app ((numB_byt _).app ((numB_byt _).app ((vecB_byt _ _).app ((numB_byt _).app ((textB_byt _).app ((textB_byt _).app ((numB_byt _).app ((numB_byt _).app ((numB_byt _).app ((numB_byt _).app ((numB_byt _).app (numB_byt _))))))))))))
theorem bytesH_byt (x : HL) : Byt (bytesH x) :=
  (((numB_byt _).app (Byt.flat fun d _ => putB_byt _)).app (numB_byt _)).app (Byt.flat fun s _ => putB_byt s)
theorem s_bytes_Equal (l : List Int) (xs ys : List Value) (te : TypeId) (o c o2 c2 : Nat) (hb : Brow xs o c l) (hb2 : Brow ys o2 c2 l) (hy : Byt l) :
    Ctr Tryd.prog F_bytes_Equal [.sl 0 o l.length c, .sl 1 o2 l.length c2] [.arr xs te, .arr ys te] (fun x H => x = bv true ∧ H = [.arr xs te, .arr ys te]) := by
  refine i_bytes_Equal.spec follows ?_
  refine Exists.intro (strOf l) (And.intro ?_ ?_)
  · show some ((xs.drop o).take (l.length * 1), l.length) = some (_, _)
    rw [hb.take1, strOf_cells hy, strOf_size]
  refine Exists.intro (strOf l) (And.intro ?_ ?_)
  · show some ((ys.drop o2).take (l.length * 1), l.length) = some (_, _)
    rw [hb2.take1, strOf_cells hy, strOf_size]
  exact VRet.mk [0, 1] (bv ((strOf l).toList == (strOf l).toList)) [.arr xs te, .arr ys te] ⟨rfl, rfl, rfl⟩ ⟨by rw [beq_self_eq_true], rfl⟩
abbrev hoQ (x : HL) (rx : List Value) (ro rc : Nat) : List SO := [.cells (vcells x.v ++ [.mp 7, .sl 11 ro x.red.length rc, .mp 8, .mp 9, .mp 10]) T_auct_House,
  .map (ents encD encST x.bs) x.bc, .map (ents encT encB x.us) x.uc, .map (ents encT encN x.ds) x.dc, .map (ents encD encO x.cs) x.cc, .arr rx T_auct_Step]
theorem s_Same (x y : HL) (N M : Nat) (hx : HI x N) (hy : HI y M) (hN : N ≤ 1000) (hM : M ≤ 1000) (hsx : ∀ d, Sm (stAt x d)) (hrx : ∀ s, s ∈ x.red → Sm s) (hsy : ∀ d, Sm (stAt y d)) (hry : ∀ s, s ∈ y.red → Sm s)
    (rx : List Value) (ro rc : Nat) (hr : RowG stcl 19 rx ro rc x.red) (qx : List Value) (qo qc : Nat) (hq : RowG stcl 19 qx qo qc y.red) (he : bytesH y = bytesH x) :
    Ctr Tryd.prog F_auct_Same [.ptr 0 0, .ptr 6 0] (hoH x rx ro rc ++ hoQ y qx qo qc) (fun r H => r = bv true ∧ H = hoH x rx ro rc ++ hoQ y qx qo qc) := by
  refine i_auct_Same.spec follows ?_
  refine VCall.mk [0, 1, 2, 3, 4, 5] (s_Bytes x N hx hN hsx hrx rx ro rc hr) ⟨rfl, rfl, rfl⟩ ?_
  rintro _ _ ⟨o1, c1, y1, rfl, rfl, b1⟩
  have hB := s_Bytes y M hy hM hsy hry qx qo qc hq
  rw [he] at hB
  refine VCall.mk [6, 7, 8, 9, 10, 11] hB ⟨rfl, rfl, rfl⟩ ?_
  rintro _ _ ⟨o2, c2, y2, rfl, rfl, b2⟩
  refine VCall.mk [12, 13] (s_bytes_Equal (bytesH x) y1 y2 T_uint8 o1 c1 o2 c2 b1 b2 (bytesH_byt x)) ⟨rfl, rfl, rfl⟩ ?_
  rintro _ _ ⟨rfl, rfl⟩
  exact VRet.mk [0, 1, 2, 3, 4, 5, 6, 7, 8, 9, 10, 11] (bv true) (hoH x rx ro rc ++ hoQ y qx qo qc) ⟨rfl, rfl, rfl⟩ ⟨rfl, rfl⟩
end Go.Proofs

namespace Go.Proofs
open Go Go.V Go.Lib
set_option maxRecDepth 100000
set_option linter.unusedVariables false

/-! ### One house, in any order -/
inductive Reach (B R : List ST) : HL → Nat → Prop
  | new : Reach B R HL.new 0
  | blue {x : HL} {a : Nat} {s : ST} (h : Reach B R x a) (hs : s ∈ B) (hb : blueE x s = 0) : Reach B R (tookN x s) a
  | red {x : HL} {a : Nat} (h : Reach B R x a) (ha : a < R.length) (he : doE x R[a] = 0) : Reach B R (doN x R[a]) (a + 1)
  | skip {x : HL} {a : Nat} (h : Reach B R x a) (ha : a < R.length) (he : doE x R[a] = 1) : Reach B R x (a + 1)
structure RI (B R : List ST) (x : HL) (a : Nat) : Prop where
  hx : HI x (x.bs.length + a)
  ha : a ≤ R.length
  red : x.red = (R.take a).filter fun s => goodT s
  mem : ∀ d s, MP.get x.bs d = some s → s ∈ B ∧ d = (s.rep, s.n) ∧ goodT s = true
  vb : ∀ r n, has x.v r n = true ↔ (MP.get x.bs (r, n)).isSome = true
theorem red_did (x : HL) (s : ST) : (doN x s).red = x.red ++ [s] := by
  unfold doN
  cases decide (s.kind = 5) <;> cases decide (s.kind = 6) <;> cases decide (s.amount ≤ s.funds - drawnF x (foldB s.user)) <;> cases mayEnd x s <;> rfl
theorem v_red (x : HL) (s : ST) : (doN x s).v = x.v := by
  unfold doN
  cases decide (s.kind = 5) <;> cases decide (s.kind = 6) <;> cases decide (s.amount ≤ s.funds - drawnF x (foldB s.user)) <;> cases mayEnd x s <;> rfl
theorem take_filter {R : List ST} {a : Nat} (ha : a < R.length) : (R.take (a + 1)).filter (fun s => goodT s) = (R.take a).filter (fun s => goodT s) ++ (bif goodT R[a] then [R[a]] else []) := by
  rw [← List.take_append_getElem ha, List.filter_append]
  cases h : goodT R[a] <;> simp [h]
theorem doE_1 {x : HL} {s : ST} (hr : redT s = true) (h : doE x s = 1) : goodT s = false := by
  unfold doE at h
  cases hg : goodT s
  · rfl
  · cases hq : gapT x s <;> simp [hg, hr, hq] at h
theorem Reach.ri {B R : List ST} (hB : ∀ s, s ∈ B → s.user.size ≤ 1000) (hR : ∀ s, s ∈ R → redT s = true) {x : HL} {a : Nat} (h : Reach B R x a) : RI B R x a := by
  induction h with
  | new => exact ⟨HI.new, Nat.zero_le _, by simp [HL.new], fun d s hq => by simp [HL.new, get_nil] at hq, fun r n => by
      constructor
      · intro hq
        have := hasI.1 hq
        have h0 : n ≤ 0 := this.2.2
        omega
      · intro hq; cases hq⟩
  | @blue x a s h hs hb ih =>
    obtain ⟨e1, e2⟩ := took_bs ih.hx hb
    have hg := (blueE_0 hb).1
    have hlen : (tookN x s).bs.length = x.bs.length + 1 := by rw [e1]; simp
    refine ⟨?_, ih.ha, ih.red, fun d t hq => ?_, fun r n => ?_⟩
    · rw [hlen]; exact (took_hi ih.hx hb (by have := hB s hs; omega)).mono (by omega)
    · have hq : MP.get (MP.put x.bs (s.rep, s.n) s x.bc) d = some t := hq
      rw [get_put] at hq
      split at hq
      · rename_i e
        cases hq
        exact ⟨hs, e, hg⟩
      · exact ih.mem d t hq
    · show has (upv x.v s.rep.toNat (x.v s.rep.toNat + 1)) r n = true ↔ (MP.get (MP.put x.bs (s.rep, s.n) s x.bc) (r, n)).isSome = true
      rw [has_up (good_dot hg) (blueE_0 hb).2.2.2.1, get_put, Bool.or_eq_true, decide_eq_true_eq, ih.vb]
      by_cases e : r = s.rep ∧ n = s.n
      · rw [if_pos (by rw [e.1, e.2])]; simp [e]
      · rw [if_neg (by intro k; exact e ⟨congrArg Prod.fst k, congrArg Prod.snd k⟩)]
        simp [e]
  | @red x a h ha he ih =>
    refine ⟨?_, ha, ?_, fun d s hq => ?_, fun r n => ?_⟩
    · rw [bs_red]; exact (ih.hx.red he).mono (by omega)
    · rw [red_did, take_filter ha, ih.red, (doE_0 he).1]; rfl
    · rw [bs_red] at hq; exact ih.mem d s hq
    · rw [bs_red, v_red]; exact ih.vb r n
  | @skip x a h ha he ih =>
    refine ⟨ih.hx.mono (by omega), ha, ?_, ih.mem, ih.vb⟩
    rw [take_filter ha, doE_1 (hR _ (List.getElem_mem ha)) he, ih.red]
    simp
def Stuck (B R : List ST) (x : HL) (a : Nat) : Prop := (∀ s, s ∈ B → blueE x s ≠ 0) ∧ ∀ ha : a < R.length, doE x R[a] = 8
theorem RI.vle {B R : List ST} {x y : HL} {a b : Nat} (hx : RI B R x a) (hy : RI B R y b) (hle : ∀ d s, MP.get x.bs d = some s → MP.get y.bs d = some s) : ∀ r : Nat, r < 7 → x.v r ≤ y.v r := by
  intro r hr
  have hv := hx.hx.v r hr
  have hw := hy.hx.v r hr
  by_cases h0 : x.v r = 0
  · omega
  · have h1 : has x.v (r : Int) (x.v r) = true := hasI.2 ⟨by omega, by omega, by rw [Int.toNat_natCast]; exact Int.le_refl _⟩
    have h2 := (hx.vb _ _).1 h1
    obtain ⟨s, hs⟩ := Option.isSome_iff_exists.1 h2
    have h3 : has y.v (r : Int) (x.v r) = true := (hy.vb _ _).2 (by rw [hle _ _ hs]; rfl)
    have := (hasI.1 h3).2.2
    rw [Int.toNat_natCast] at this
    exact this
theorem RI.rle {B R : List ST} {x y : HL} {a b : Nat} (hx : RI B R x a) (hy : RI B R y b) (hab : a ≤ b) : x.red.length ≤ y.red.length := by
  rw [hx.red, hy.red]
  have : R.take a = (R.take b).take a := by rw [List.take_take, Nat.min_eq_left hab]
  rw [this]
  exact List.Sublist.length_le (List.Sublist.filter _ (List.take_sublist _ _))
theorem leB_mono {s v w : Nat → Int} (h : leB s v = true) (hv : ∀ r, r < 7 → v r ≤ w r) : leB s w = true := by
  rw [leB_iff] at h ⊢
  exact fun i hi => Int.le_trans (h i hi) (hv i hi)
theorem Reach.under {B R : List ST} (hB : ∀ s, s ∈ B → s.user.size ≤ 1000) (hR : ∀ s, s ∈ R → redT s = true) (hD : ∀ s t, s ∈ B → t ∈ B → s.rep = t.rep → s.n = t.n → s = t)
    {y : HL} {b : Nat} (hy : Reach B R y b) (hst : Stuck B R y b) {x : HL} {a : Nat} (h : Reach B R x a) : (∀ d s, MP.get x.bs d = some s → MP.get y.bs d = some s) ∧ a ≤ b := by
  have iy := hy.ri hB hR
  induction h with
  | new => exact ⟨fun d s hq => by simp [HL.new, get_nil] at hq, Nat.zero_le _⟩
  | @blue x a s h hs hb ih =>
    have ix := h.ri hB hR
    obtain ⟨g1, g2, g3, g4, g5, g6⟩ := blueE_0 hb
    have hd := good_dot g1
    refine ⟨fun d t hq => ?_, ih.2⟩
    have hq : MP.get (MP.put x.bs (s.rep, s.n) s x.bc) d = some t := hq
    rw [get_put] at hq
    split at hq
    · rename_i e
      cases hq
      subst e
      have hv := ix.vle iy ih.1
      have hrl := ix.rle iy ih.2
      cases hn : has y.v s.rep s.n
      · exfalso
        have hvr := hv s.rep.toNat (by omega)
        have hnn : ¬ s.n ≤ y.v s.rep.toNat := fun k => by
          rw [hasI.2 ⟨hd.1, hd.2.1, k⟩] at hn; cases hn
        refine hst.1 s hs ?_
        unfold blueE
        rw [g1, g2, hn, leB_mono g5 hv, show decide (s.n = y.v s.rep.toNat + 1) = true from decide_eq_true (by omega), show decide ((y.red.length : Int) < s.reds) = false from decide_eq_false (by omega)]
        rfl
      · have h2 := (iy.vb _ _).1 hn
        obtain ⟨t, ht⟩ := Option.isSome_iff_exists.1 h2
        obtain ⟨m1, m2, _⟩ := iy.mem _ _ ht
        have e1 := congrArg Prod.fst m2
        have e2 := congrArg Prod.snd m2
        rw [ht, hD t s m1 hs e1.symm e2.symm]
    · exact ih.1 d t hq
  | @red x a h ha he ih =>
    have ix := h.ri hB hR
    refine ⟨fun d s hq => by rw [bs_red] at hq; exact ih.1 d s hq, ?_⟩
    rcases Nat.lt_or_ge a b with k | k
    · exact k
    · exfalso
      have hab : a = b := Nat.le_antisymm ih.2 k
      subst hab
      have h8 := hst.2 ha
      obtain ⟨g1, g2, g3⟩ := doE_0 he
      have hv := ix.vle iy ih.1
      have hrl := ix.rle iy ih.2
      have g4 : leB R[a].seen x.v = true := by
        unfold gapT at g3
        cases hq : leB R[a].seen x.v
        · rw [hq] at g3; simp at g3
        · rfl
      have g5 : ¬ (x.red.length : Int) < R[a].reds := by
        unfold gapT at g3
        rw [g4] at g3
        simpa using g3
      have : doE y R[a] = 0 := by
        unfold doE gapT
        rw [g1, g2, leB_mono g4 hv, show decide ((y.red.length : Int) < R[a].reds) = false from decide_eq_false (by omega)]
        rfl
      omega
  | @skip x a h ha he ih =>
    refine ⟨ih.1, ?_⟩
    rcases Nat.lt_or_ge a b with k | k
    · exact k
    · exfalso
      have hab : a = b := Nat.le_antisymm ih.2 k
      subst hab
      have h8 := hst.2 ha
      have hg := doE_1 (hR _ (List.getElem_mem ha)) he
      have : doE y R[a] = 1 := by unfold doE; rw [hg]; rfl
      omega
/-- Two that stand still are the same. -/
theorem same_end {B R : List ST} (hB : ∀ s, s ∈ B → s.user.size ≤ 1000) (hR : ∀ s, s ∈ R → redT s = true) (hD : ∀ s t, s ∈ B → t ∈ B → s.rep = t.rep → s.n = t.n → s = t)
    {x y : HL} {a b : Nat} (hx : Reach B R x a) (sx : Stuck B R x a) (hy : Reach B R y b) (sy : Stuck B R y b) : bytesH y = bytesH x ∧ x.red.length = y.red.length ∧ ∀ r, r < 7 → x.v r = y.v r := by
  have ix := hx.ri hB hR
  have iy := hy.ri hB hR
  obtain ⟨u1, u2⟩ := Reach.under hB hR hD hy sy hx
  obtain ⟨w1, w2⟩ := Reach.under hB hR hD hx sx hy
  have hab : a = b := Nat.le_antisymm u2 w2
  subst hab
  have hget : ∀ d, MP.get y.bs d = MP.get x.bs d := fun d => by
    cases hq : MP.get x.bs d with
    | some s => exact u1 d s hq
    | none =>
      cases hq2 : MP.get y.bs d with
      | none => rfl
      | some s => rw [w1 d s hq2] at hq; cases hq
  have hred : y.red = x.red := by rw [ix.red, iy.red]
  have hkeys : keysF y = keysF x := by
    refine srt_ext (srt_sortD iy.hx.bk) (srt_sortD ix.hx.bk) fun d => ?_
    show d ∈ sortD _ ↔ d ∈ sortD _
    rw [mem_sortD, mem_sortD, ← get_mem, ← get_mem, hget]
  refine ⟨?_, by rw [hred], fun r hr => Int.le_antisymm (ix.vle iy u1 r hr) (iy.vle ix w1 r hr)⟩
  have hst : (fun d => putB (stAt y d)) = fun d => putB (stAt x d) := by
    funext d
    unfold stAt
    rw [hget]
  unfold bytesH
  rw [hkeys, hred, hst]
theorem Reach.len {B R : List ST} (hB : ∀ s, s ∈ B → s.user.size ≤ 1000) (hR : ∀ s, s ∈ R → redT s = true) {x : HL} {a : Nat} (h : Reach B R x a) : x.bs.length ≤ B.length ∧ a ≤ R.length := by
  have ix := h.ri hB hR
  refine ⟨?_, ix.ha⟩
  have h1 : ∀ d, d ∈ x.bs.map (·.1) → d ∈ B.map fun s => (s.rep, s.n) := fun d hd => by
    obtain ⟨e, he, rfl⟩ := List.mem_map.1 hd
    obtain ⟨m1, m2, _⟩ := ix.mem _ _ (get_of_mem ix.hx.bk he)
    exact List.mem_map.2 ⟨e.2.1, m1, m2.symm⟩
  have := nodup_len ix.hx.bk h1
  simpa using this
end Go.Proofs

namespace Go.Proofs
open Go Go.V Go.Lib
set_option maxRecDepth 100000
set_option linter.unusedVariables false

/-! ### Settling, walked -/
def meas (x : HL) (a : Nat) : Nat := x.bs.length + a
structure PI (B R : List ST) (x0 : HL) (a0 : Nat) (x : HL) (a : Nat) (D : ST → Prop) : Prop where
  reach : Reach B R x a
  ge : meas x0 a0 ≤ meas x a
  st : Stuck B R x0 a0 → x = x0 ∧ a = a0
  eq : meas x a = meas x0 a0 → x = x0 ∧ a = a0 ∧ ∀ s, D s → blueE x0 s ≠ 0
theorem PI.start {B R : List ST} {x : HL} {a : Nat} (h : Reach B R x a) : PI B R x a x a (fun _ => False) := ⟨h, Nat.le_refl _, fun _ => ⟨rfl, rfl⟩, fun _ => ⟨rfl, rfl, fun _ k => k.elim⟩⟩
theorem PI.weak {B R : List ST} {x0 x : HL} {a0 a : Nat} {D D' : ST → Prop} (h : PI B R x0 a0 x a D) (hd : ∀ s, D' s → D s) : PI B R x0 a0 x a D' :=
  ⟨h.reach, h.ge, h.st, fun e => ⟨(h.eq e).1, (h.eq e).2.1, fun s k => (h.eq e).2.2 s (hd s k)⟩⟩
theorem PI.blue {B R : List ST} (hB : ∀ s, s ∈ B → s.user.size ≤ 1000) (hR : ∀ s, s ∈ R → redT s = true) {x0 x : HL} {a0 a : Nat} {D : ST → Prop} (h : PI B R x0 a0 x a D) {s : ST} (hs : s ∈ B) :
    PI B R x0 a0 (blueN x s) a (fun t => D t ∨ t = s) := by
  by_cases hb : blueE x s = 0
  · have e : blueN x s = tookN x s := blueN_0 hb
    have hm : meas (tookN x s) a = meas x a + 1 := by
      unfold meas
      rw [(took_bs (h.reach.ri hB hR).hx hb).1]; simp; omega
    rw [e]
    have hge := h.ge
    refine ⟨h.reach.blue hs hb, by omega, fun k => ?_, fun k => by omega⟩
    obtain ⟨k1, k2⟩ := h.st k
    subst k1
    exact absurd hb (k.1 s hs)
  · rw [blueN_1 hb]
    refine ⟨h.reach, h.ge, h.st, fun k => ?_⟩
    obtain ⟨k1, k2, k3⟩ := h.eq k
    refine ⟨k1, k2, fun t ht => ?_⟩
    rcases ht with ht | ht
    · exact k3 t ht
    · subst ht; subst k1; exact hb
theorem PI.red {B R : List ST} {x0 x : HL} {a0 a : Nat} {D : ST → Prop} (h : PI B R x0 a0 x a D) (ha : a < R.length) (he : doE x R[a] = 0) : PI B R x0 a0 (doN x R[a]) (a + 1) D := by
  have hm : meas (doN x R[a]) (a + 1) = meas x a + 1 := by unfold meas; rw [bs_red]; omega
  have hge := h.ge
  refine ⟨h.reach.red ha he, by omega, fun k => ?_, fun k => by omega⟩
  obtain ⟨k1, k2⟩ := h.st k
  subst k1 k2
  have := k.2 ha
  omega
theorem PI.skip {B R : List ST} {x0 x : HL} {a0 a : Nat} {D : ST → Prop} (h : PI B R x0 a0 x a D) (ha : a < R.length) (he : doE x R[a] = 1) : PI B R x0 a0 x (a + 1) D := by
  have hm : meas x (a + 1) = meas x a + 1 := by unfold meas; omega
  have hge := h.ge
  refine ⟨h.reach.skip ha he, by omega, fun k => ?_, fun k => by omega⟩
  obtain ⟨k1, k2⟩ := h.st k
  subst k1 k2
  have := k.2 ha
  omega
theorem PI.turn {B R : List ST} {x0 x : HL} {a0 a t : Nat} {D : ST → Prop} (h : PI B R x0 a0 x a D) (hD : ∀ s, s ∈ B → D s) (hg : ∀ ha : a < R.length, doE x R[a] = 8) (h0 : Stuck B R x0 a0 ∨ t ≤ meas x0 a0) :
    Stuck B R x a ∨ t + 1 ≤ meas x a := by
  by_cases e : meas x a = meas x0 a0
  · obtain ⟨k1, k2, k3⟩ := h.eq e
    subst k1 k2
    exact .inl ⟨fun s hs => k3 s (hD s hs), hg⟩
  · have hge := h.ge
    rcases h0 with k | k
    · obtain ⟨k1, k2⟩ := h.st k
      subst k1 k2
      exact absurd rfl e
    · right; omega
theorem doE_all (x : HL) (s : ST) (hr : redT s = true) : doE x s = 0 ∨ doE x s = 1 ∨ doE x s = 8 := by
  unfold doE
  cases goodT s <;> cases gapT x s <;> simp [hr]
theorem s_New2 : Ctr Tryd.prog F_auct_New [] [] (fun r H => r = .ptr 0 0 ∧ H = [.cells (vcells HL.new.v ++ [.mp 1, .raw (.slice none 0 0), .mp 2, .mp 3, .mp 4]) T_auct_House,
    .map (ents encD encST ([] : MB)) 0, .map (ents encT encB ([] : MU)) 0, .map (ents encT encN ([] : MD)) 0, .map (ents encD encO ([] : MC)) 0]) := by
  refine i_auct_New.spec follows ?_
  exact VRet.mk [4, 0, 1, 2, 3] (.ptr 0 0) _ ⟨rfl, rfl, rfl⟩ ⟨rfl, rfl⟩
abbrev hoS (x : HL) (rx : List Value) (ro rc : Nat) (h : Nat → Option Obj) : List SO := [.cells (vcells x.v ++ [.mp 1, .sl 6 ro x.red.length rc, .mp 2, .mp 3, .mp 4]) T_auct_House,
  .map (ents encD encST x.bs) x.bc, .map (ents encT encB x.us) x.uc, .map (ents encT encN x.ds) x.dc, .map (ents encD encO x.cs) x.cc, .heap h, .arr rx T_auct_Step]
def ordB (np : Bool) (n j : Nat) : Nat := bif np then j else n - 1 - j
theorem ord_all {B : List ST} {np : Bool} {s : ST} (hs : s ∈ B) : ∃ j, j < B.length ∧ B[ordB np B.length j]? = some s := by
  obtain ⟨m, hm, rfl⟩ := List.mem_iff_getElem.1 hs
  cases np
  · refine ⟨B.length - 1 - m, by omega, ?_⟩
    show B[B.length - 1 - (B.length - 1 - m)]? = _
    rw [show B.length - 1 - (B.length - 1 - m) = m by omega, List.getElem?_eq_getElem hm]
  · exact ⟨m, hm, List.getElem?_eq_getElem hm⟩
theorem ord_step {B : List ST} {np : Bool} {i j : Nat} {s : ST} (hi : i < B.length) (hj : j < i + 1) (hs : B[ordB np B.length j]? = some s) :
    (∃ j, j < i ∧ B[ordB np B.length j]? = some s) ∨ some s = B[ordB np B.length i]? := by
  by_cases e : j = i
  · subst e; exact .inr hs.symm
  · exact .inl ⟨j, by omega, hs⟩
structure TX where
  i : Nat
  x : HL
  a : Nat
  rx : List Value
  ro : Nat
  rc : Nat
set_option maxHeartbeats 4000000 in
theorem s_settle (h : Nat → Option Obj) (hu : Uni h) (hc : CaseH h) (B R : List ST) (P : List Int) (vB vR vP : Value) (hvB : RowsIs stcl 19 h vB B) (hvR : RowsIs stcl 19 h vR R) (hvP : RowsIs intcl 1 h vP P)
    (hBl : B.length ≤ 20) (hRl : R.length ≤ 10) (hPl : P.length ≤ 200) (hB : ∀ s, s ∈ B → s.name.size ≤ 100 ∧ s.user.size ≤ 100) (hR : ∀ s, s ∈ R → (s.name.size ≤ 100 ∧ s.user.size ≤ 100) ∧ redT s = true) :
    Ctr Tryd.prog F_rostrumlaw24_settle [.ptr 0 0, .raw vB, .raw vR, .raw vP] [.cells (vcells HL.new.v ++ [.mp 1, .raw (.slice none 0 0), .mp 2, .mp 3, .mp 4]) T_auct_House,
      .map (ents encD encST ([] : MB)) 0, .map (ents encT encB ([] : MU)) 0, .map (ents encT encN ([] : MD)) 0, .map (ents encD encO ([] : MC)) 0, .heap h]
      (fun r H => r = .tup [] ∧ ∃ x a rx ro rc, Reach B R x a ∧ Stuck B R x a ∧ RowG stcl 19 rx ro rc x.red ∧ H = hoS x rx ro rc h) := by
  have hB' : ∀ s, s ∈ B → s.user.size ≤ 1000 := fun s hs => by have := hB s hs; omega
  have hR' : ∀ s, s ∈ R → redT s = true := fun s hs => (hR s hs).2
  obtain ⟨aB, cB, rfl⟩ := hvB.shape
  obtain ⟨aR, cR, rfl⟩ := hvR.shape
  obtain ⟨aP, cP, rfl⟩ := hvP.shape
  obtain ⟨b1, o1, xs1, e1, fr1, p1⟩ := hvB.pos
  obtain ⟨b2, o2, xs2, e2, fr2, p2⟩ := hvR.pos
  obtain ⟨b3, o3, xs3, e3, fr3, p3⟩ := hvP.pos
  refine i_rostrumlaw24_settle.spec follows ?_
  refine VLoop.nil T_auct_Step [] [(0, 8)] ⟨rfl, rfl⟩ ?_
  refine VLoop.mk TX (fun y => [(0, .ptr 0 0), (1, .raw (.slice aB B.length cB)), (2, .raw (.slice aR R.length cR)), (3, .raw (.slice aP P.length cP)), (8, iv y.a), (9, iv y.i)])
    (fun y => hoS y.x y.rx y.ro y.rc h) (fun y => y.i ≤ B.length + R.length + 1 ∧ Reach B R y.x y.a ∧ RowG stcl 19 y.rx y.ro y.rc y.x.red ∧ (Stuck B R y.x y.a ∨ y.i ≤ meas y.x y.a)) (fun y => B.length + R.length + 1 - y.i) ⟨0, HL.new, 0, [], 0, 0⟩ [0, 1, 2, 3, 4, 5, 6]
    ⟨⟨Nat.zero_le _, Reach.new, row0, .inr (Nat.zero_le _)⟩, rfl, rfl, rfl⟩ ?_
  rintro ⟨t, x0, a0, rx0, ro0, rc0⟩ ⟨ht, hr0, hw0, hm0⟩ g
  simp only at ht hr0 hw0 hm0
  have hwT : IntKind.i64.wrap ((B.length : Nat) + (R.length : Nat) : Int) = ((B.length + R.length : Nat) : Int) := wrap64 (by omega)
  refine Exists.intro _ (And.intro hwT ?_)
  refine And.intro (fun k1 => ?_) (fun k1 => ?_)
  · have k1 : (t : Int) ≤ ((B.length + R.length : Nat) : Int) := of_decide_eq_true k1
    have htl : t ≤ B.length + R.length := by omega
    have hwt : IntKind.i64.wrap ((t : Int) + 1) = ((t + 1 : Nat) : Int) := wrap64 (by omega)
    refine VLoop.mk TX (fun y => [(0, .ptr 0 0), (1, .raw (.slice aB B.length cB)), (2, .raw (.slice aR R.length cR)), (3, .raw (.slice aP P.length cP)), (8, iv a0), (9, iv t), (10, iv y.i)])
      (fun y => hoS y.x rx0 ro0 rc0 h) (fun y => y.i ≤ P.length ∧ y.x.red = x0.red ∧ PI B R x0 a0 y.x a0 (fun _ => False)) (fun y => P.length - y.i) ⟨0, x0, a0, [], 0, 0⟩ [0, 1, 2, 3, 4, 5, 6]
      ⟨⟨Nat.zero_le _, rfl, PI.start hr0⟩, rfl, rfl, rfl⟩ ?_
    rintro ⟨i, x1, q1, q2, q3, q4⟩ ⟨hi, hx1, hP1⟩ g2
    simp only at hi hx1 hP1
    refine And.intro (fun k2 => ?_) (fun k2 => ?_)
    · refine And.intro (fun k3 => ?_) (fun k3 => ?_)
      · refine And.intro (fun k4 => ?_) (fun k4 => ?_)
        · skip
          have k2 : (i : Int) < (P.length : Nat) := of_decide_eq_true k2
          have k3 : (0 : Int) < (B.length : Nat) := of_decide_eq_true k3
          have hip : i < P.length := by omega
          have hwi : IntKind.i64.wrap ((i : Int) + 1) = ((i + 1 : Nat) : Int) := wrap64 (by omega)
          have q3' := p3 (by omega)
          obtain ⟨rfl, hh3, hcut3⟩ := q3'
          have q1' := p1 (by omega)
          obtain ⟨rfl, hh1, hcut1⟩ := q1'
          have ci := cut_one (hcut3 i hip) 0 (by omega)
          have ix1 := hP1.reach.ri hB' hR'
          have hni : (0 : Int) ≤ (i : Int) ∧ (i : Int) < (P.length : Nat) := ⟨Int.natCast_nonneg i, k2⟩
          refine And.intro hni ?_
          refine Exists.intro 5 (Exists.intro xs3 (Exists.intro e3 (Exists.intro fr3 (And.intro hh3 (Exists.intro _ (And.intro (by rw [Int.toNat_natCast]; exact ci) ?_))))))
          refine And.intro (fun k5 => ?_) (fun k5 => ?_)
          · have k5 : 0 ≤ P[i] := of_decide_eq_true k5
            have hm1 : 0 ≤ P[i].tmod (B.length : Nat) := Int.tmod_nonneg _ k5
            have hm2 : P[i].tmod (B.length : Nat) < (B.length : Nat) := Int.tmod_lt_of_pos _ k3
            have hKK : (P[i].tmod (B.length : Nat)).toNat < B.length := by omega
            have cK := hcut1 (P[i].tmod (B.length : Nat)).toNat hKK
            have hBs := hB B[(P[i].tmod (B.length : Nat)).toNat] (List.getElem_mem hKK)
            refine And.intro hni ?_
            refine Exists.intro 5 (Exists.intro xs3 (Exists.intro e3 (Exists.intro fr3 (And.intro hh3 (Exists.intro _ (And.intro (by rw [Int.toNat_natCast]; exact ci) ?_))))))
            refine And.intro (by omega) (Exists.intro _ (And.intro rfl ?_))
            refine And.intro ⟨hm1, hm2⟩ ?_
            refine Exists.intro 5 (Exists.intro xs1 (Exists.intro e1 (Exists.intro fr1 (And.intro hh1 (Exists.intro _ (And.intro cK ?_))))))
            refine VCall.mk [0, 1, 2, 3, 4, 6, 5] (s_Blue h hu x1 ix1.hx.v rx0 ro0 rc0 B[(P[i].tmod (B.length : Nat)).toNat] (by omega) (by omega)) ⟨rfl, rfl, rfl⟩ ?_
            rintro _ _ ⟨rfl, rfl⟩
            refine Exists.intro _ (And.intro hwi ?_)
            exact Exists.intro ⟨i + 1, blueN x1 B[(P[i].tmod (B.length : Nat)).toNat], a0, [], 0, 0⟩ (Exists.intro [0, 1, 2, 3, 4, 5, 6] (And.intro ⟨⟨hip, (blue_red _ _).trans hx1, (hP1.blue hB' hR' (List.getElem_mem hKK)).weak (fun s k => k.elim)⟩, by simp only; omega⟩ ⟨rfl, rfl, rfl⟩))
          · refine Exists.intro _ (And.intro hwi ?_)
            exact Exists.intro ⟨i + 1, x1, a0, [], 0, 0⟩ (Exists.intro [0, 1, 2, 3, 4, 5, 6] (And.intro ⟨⟨hip, hx1, hP1⟩, by simp only; omega⟩ ⟨rfl, rfl, rfl⟩))
        · skip
          refine VLoop.mk TX (fun y => [(0, .ptr 0 0), (1, .raw (.slice aB B.length cB)), (2, .raw (.slice aR R.length cR)), (3, .raw (.slice aP P.length cP)), (8, iv a0), (9, iv t), (11, iv y.i)])
            (fun y => hoS y.x rx0 ro0 rc0 h) (fun y => y.i ≤ B.length ∧ y.x.red = x0.red ∧ PI B R x0 a0 y.x a0 (fun s => ∃ j, j < y.i ∧ B[ordB aP.isNone B.length j]? = some s)) (fun y => B.length - y.i) ⟨0, x1, a0, [], 0, 0⟩ [0, 1, 2, 3, 4, 5, 6]
            ⟨⟨Nat.zero_le _, hx1, hP1.weak (fun s ⟨j, hj, _⟩ => absurd hj (Nat.not_lt_zero j))⟩, rfl, rfl, rfl⟩ ?_
          rintro ⟨i2, x2, q5, q6, q7, q8⟩ ⟨hi2, hx2, hP2⟩ g3
          simp only at hi2 hx2 hP2
          have ix := hP2.reach.ri hB' hR'
          refine And.intro (fun k5 => ?_) (fun k5 => ?_)
          · have k5 : (i2 : Int) < (B.length : Nat) := of_decide_eq_true k5
            have hil : i2 < B.length := by omega
            have hwi2 : IntKind.i64.wrap ((i2 : Int) + 1) = ((i2 + 1 : Nat) : Int) := wrap64 (by omega)
            have q1 := p1 (by omega)
            obtain ⟨rfl, hh1, hcut1⟩ := q1
            cases aP with
            | none =>
              have hKK : i2 < B.length := hil
              have cK := hcut1 i2 hil
              have hnK : (0 : Int) ≤ (i2 : Int) ∧ (i2 : Int) < (B.length : Nat) := ⟨Int.natCast_nonneg i2, k5⟩
              have hBs := hB B[i2] (List.getElem_mem hKK)
              refine And.intro hnK ?_
              refine Exists.intro 5 (Exists.intro xs1 (Exists.intro e1 (Exists.intro fr1 (And.intro hh1 (Exists.intro _ (And.intro (by rw [Int.toNat_natCast]; exact cK) ?_))))))
              refine VCall.mk [0, 1, 2, 3, 4, 6, 5] (s_Blue h hu x2 ix.hx.v rx0 ro0 rc0 B[i2] (by omega) (by omega)) ⟨rfl, rfl, rfl⟩ ?_
              rintro _ _ ⟨rfl, rfl⟩
              refine Exists.intro _ (And.intro hwi2 ?_)
              refine Exists.intro ⟨i2 + 1, blueN x2 B[i2], a0, [], 0, 0⟩ (Exists.intro [0, 1, 2, 3, 4, 5, 6] (And.intro ⟨⟨hil, (blue_red _ _).trans hx2, ?_⟩, by simp only; omega⟩ ⟨rfl, rfl, rfl⟩))
              refine (hP2.blue hB' hR' (List.getElem_mem hil)).weak ?_
              rintro s ⟨j, hj, hjs⟩
              rcases ord_step (np := true) hil hj hjs with e | e
              · exact .inl e
              · have e : some s = B[i2]? := e
                rw [List.getElem?_eq_getElem hil] at e
                exact .inr (Option.some.inj e)
            | some aP =>
              have hwn1 : IntKind.i64.wrap ((B.length : Nat) - 1 : Int) = ((B.length - 1 : Nat) : Int) := by rw [wrap64 (by omega)]; omega
              have hwn2 : IntKind.i64.wrap (((B.length - 1 : Nat) : Int) - (i2 : Int)) = ((B.length - 1 - i2 : Nat) : Int) := by rw [wrap64 (by omega)]; omega
              have hKK : B.length - 1 - i2 < B.length := by omega
              have cK := hcut1 (B.length - 1 - i2) hKK
              have hnK : (0 : Int) ≤ ((B.length - 1 - i2 : Nat) : Int) ∧ ((B.length - 1 - i2 : Nat) : Int) < (B.length : Nat) := ⟨Int.natCast_nonneg _, by omega⟩
              refine Exists.intro _ (And.intro hwn1 ?_)
              refine Exists.intro _ (And.intro hwn2 ?_)
              have hBs := hB B[B.length - 1 - i2] (List.getElem_mem hKK)
              refine And.intro hnK ?_
              refine Exists.intro 5 (Exists.intro xs1 (Exists.intro e1 (Exists.intro fr1 (And.intro hh1 (Exists.intro _ (And.intro (by rw [Int.toNat_natCast]; exact cK) ?_))))))
              refine VCall.mk [0, 1, 2, 3, 4, 6, 5] (s_Blue h hu x2 ix.hx.v rx0 ro0 rc0 B[B.length - 1 - i2] (by omega) (by omega)) ⟨rfl, rfl, rfl⟩ ?_
              rintro _ _ ⟨rfl, rfl⟩
              refine Exists.intro _ (And.intro hwi2 ?_)
              refine Exists.intro ⟨i2 + 1, blueN x2 B[B.length - 1 - i2], a0, [], 0, 0⟩ (Exists.intro [0, 1, 2, 3, 4, 5, 6] (And.intro ⟨⟨hil, (blue_red _ _).trans hx2, ?_⟩, by simp only; omega⟩ ⟨rfl, rfl, rfl⟩))
              refine (hP2.blue hB' hR' (List.getElem_mem hKK)).weak ?_
              rintro s ⟨j, hj, hjs⟩
              rcases ord_step (np := false) hil hj hjs with e | e
              · exact .inl e
              · have e : some s = B[B.length - 1 - i2]? := e
                rw [List.getElem?_eq_getElem hKK] at e
                exact .inr (Option.some.inj e)
          · have hil : i2 = B.length := by have k5 := of_decide_eq_false k5; simp only at k5; omega
            subst hil
            have hDone : ∀ s, s ∈ B → ∃ j, j < B.length ∧ B[ordB aP.isNone B.length j]? = some s := fun s hs => ord_all hs
            have hw2 : RowG stcl 19 rx0 ro0 rc0 x2.red := by rw [hx2]; exact hw0
            refine VLoop.mk TX (fun y => [(0, .ptr 0 0), (1, .raw (.slice aB B.length cB)), (2, .raw (.slice aR R.length cR)), (3, .raw (.slice aP P.length cP)), (8, iv y.a), (9, iv t)])
              (fun y => hoS y.x y.rx y.ro y.rc h) (fun y => y.a ≤ R.length ∧ RowG stcl 19 y.rx y.ro y.rc y.x.red ∧ PI B R x0 a0 y.x y.a (fun s => ∃ j, j < B.length ∧ B[ordB aP.isNone B.length j]? = some s)) (fun y => R.length - y.a) ⟨0, x2, a0, rx0, ro0, rc0⟩ [0, 1, 2, 3, 4, 5, 6]
              ⟨⟨ix.ha, hw2, hP2⟩, rfl, rfl, rfl⟩ ?_
            rintro ⟨q9, x3, a3, rx3, ro3, rc3⟩ ⟨ha3, hw3, hP3⟩ g4
            simp only at ha3 hw3 hP3
            refine And.intro (fun k6 => ?_) (fun k6 => ?_)
            · skip
              have k6 : (a3 : Int) < (R.length : Nat) := of_decide_eq_true k6
              have hal : a3 < R.length := by omega
              have hwa : IntKind.i64.wrap ((a3 : Int) + 1) = ((a3 + 1 : Nat) : Int) := wrap64 (by omega)
              have ix := hP3.reach.ri hB' hR'
              have hlen := hP3.reach.len hB' hR'
              have q2 := p2 (by omega)
              obtain ⟨rfl, hh2, hcut2⟩ := q2
              have c2' := hcut2 a3 hal
              have hRs := hR R[a3] (List.getElem_mem hal)
              refine And.intro ⟨Int.natCast_nonneg a3, k6⟩ ?_
              refine Exists.intro 5 (Exists.intro xs2 (Exists.intro e2 (Exists.intro fr2 (And.intro hh2 (Exists.intro _ (And.intro (by rw [Int.toNat_natCast]; exact c2') ?_))))))
              refine VCall.mk [0, 1, 2, 3, 4, 6, 5] (s_Do h hu hc x3 (x3.bs.length + a3) ix.hx (by omega) rx3 ro3 rc3 hw3 R[a3] (by omega) (by omega)) ⟨rfl, rfl, rfl⟩ ?_
              rintro _ _ (⟨he, rfl, rfl⟩ | ⟨he, rfl, rx4, ro4, rc4, hw4, rfl⟩)
              · refine And.intro (fun k7 => ?_) (fun k7 => ?_)
                · have hgap : ∀ ha : a3 < R.length, doE x3 R[a3] = 8 := fun _ => of_decide_eq_true k7
                  refine Exists.intro _ (And.intro hwt ?_)
                  exact Exists.intro ⟨t + 1, x3, a3, rx3, ro3, rc3⟩ (Exists.intro [0, 1, 2, 3, 4, 5, 6] (And.intro ⟨⟨by simp only; omega, hP3.reach, hw3, hP3.turn hDone hgap hm0⟩, by simp only; omega⟩ ⟨rfl, rfl, rfl⟩))
                · have k7 : ¬ doE x3 R[a3] = 8 := of_decide_eq_false k7
                  have h1 : doE x3 R[a3] = 1 := by
                    rcases doE_all x3 R[a3] hRs.2 with e | e | e
                    · exact absurd e he
                    · exact e
                    · exact absurd e k7
                  refine Exists.intro _ (And.intro hwa ?_)
                  exact Exists.intro ⟨0, x3, a3 + 1, rx3, ro3, rc3⟩ (Exists.intro [0, 1, 2, 3, 4, 5, 6] (And.intro ⟨⟨hal, hw3, hP3.skip hal h1⟩, by simp only; omega⟩ ⟨rfl, rfl, rfl⟩))
              · refine And.intro (fun k7 => absurd k7 (by decide)) (fun _ => ?_)
                refine Exists.intro _ (And.intro hwa ?_)
                exact Exists.intro ⟨0, doN x3 R[a3], a3 + 1, rx4, ro4, rc4⟩ (Exists.intro [0, 1, 2, 3, 4, 5, 7] (And.intro ⟨⟨hal, hw4, hP3.red hal he⟩, by simp only; omega⟩ ⟨rfl, rfl, rfl⟩))
            · have hal : a3 = R.length := by have k6 := of_decide_eq_false k6; simp only at k6; omega
              have hgap : ∀ ha : a3 < R.length, doE x3 R[a3] = 8 := fun ha => absurd ha (by omega)
              refine Exists.intro _ (And.intro hwt ?_)
              exact Exists.intro ⟨t + 1, x3, a3, rx3, ro3, rc3⟩ (Exists.intro [0, 1, 2, 3, 4, 5, 6] (And.intro ⟨⟨by simp only; omega, hP3.reach, hw3, hP3.turn hDone hgap hm0⟩, by simp only; omega⟩ ⟨rfl, rfl, rfl⟩))
      · skip
        refine VLoop.mk TX (fun y => [(0, .ptr 0 0), (1, .raw (.slice aB B.length cB)), (2, .raw (.slice aR R.length cR)), (3, .raw (.slice aP P.length cP)), (8, iv a0), (9, iv t), (11, iv y.i)])
          (fun y => hoS y.x rx0 ro0 rc0 h) (fun y => y.i ≤ B.length ∧ y.x.red = x0.red ∧ PI B R x0 a0 y.x a0 (fun s => ∃ j, j < y.i ∧ B[ordB aP.isNone B.length j]? = some s)) (fun y => B.length - y.i) ⟨0, x1, a0, [], 0, 0⟩ [0, 1, 2, 3, 4, 5, 6]
          ⟨⟨Nat.zero_le _, hx1, hP1.weak (fun s ⟨j, hj, _⟩ => absurd hj (Nat.not_lt_zero j))⟩, rfl, rfl, rfl⟩ ?_
        rintro ⟨i2, x2, q5, q6, q7, q8⟩ ⟨hi2, hx2, hP2⟩ g3
        simp only at hi2 hx2 hP2
        have ix := hP2.reach.ri hB' hR'
        refine And.intro (fun k5 => ?_) (fun k5 => ?_)
        · have k5 : (i2 : Int) < (B.length : Nat) := of_decide_eq_true k5
          have hil : i2 < B.length := by omega
          have hwi2 : IntKind.i64.wrap ((i2 : Int) + 1) = ((i2 + 1 : Nat) : Int) := wrap64 (by omega)
          have q1 := p1 (by omega)
          obtain ⟨rfl, hh1, hcut1⟩ := q1
          cases aP with
          | none =>
            have hKK : i2 < B.length := hil
            have cK := hcut1 i2 hil
            have hnK : (0 : Int) ≤ (i2 : Int) ∧ (i2 : Int) < (B.length : Nat) := ⟨Int.natCast_nonneg i2, k5⟩
            have hBs := hB B[i2] (List.getElem_mem hKK)
            refine And.intro hnK ?_
            refine Exists.intro 5 (Exists.intro xs1 (Exists.intro e1 (Exists.intro fr1 (And.intro hh1 (Exists.intro _ (And.intro (by rw [Int.toNat_natCast]; exact cK) ?_))))))
            refine VCall.mk [0, 1, 2, 3, 4, 6, 5] (s_Blue h hu x2 ix.hx.v rx0 ro0 rc0 B[i2] (by omega) (by omega)) ⟨rfl, rfl, rfl⟩ ?_
            rintro _ _ ⟨rfl, rfl⟩
            refine Exists.intro _ (And.intro hwi2 ?_)
            refine Exists.intro ⟨i2 + 1, blueN x2 B[i2], a0, [], 0, 0⟩ (Exists.intro [0, 1, 2, 3, 4, 5, 6] (And.intro ⟨⟨hil, (blue_red _ _).trans hx2, ?_⟩, by simp only; omega⟩ ⟨rfl, rfl, rfl⟩))
            refine (hP2.blue hB' hR' (List.getElem_mem hil)).weak ?_
            rintro s ⟨j, hj, hjs⟩
            rcases ord_step (np := true) hil hj hjs with e | e
            · exact .inl e
            · have e : some s = B[i2]? := e
              rw [List.getElem?_eq_getElem hil] at e
              exact .inr (Option.some.inj e)
          | some aP =>
            have hwn1 : IntKind.i64.wrap ((B.length : Nat) - 1 : Int) = ((B.length - 1 : Nat) : Int) := by rw [wrap64 (by omega)]; omega
            have hwn2 : IntKind.i64.wrap (((B.length - 1 : Nat) : Int) - (i2 : Int)) = ((B.length - 1 - i2 : Nat) : Int) := by rw [wrap64 (by omega)]; omega
            have hKK : B.length - 1 - i2 < B.length := by omega
            have cK := hcut1 (B.length - 1 - i2) hKK
            have hnK : (0 : Int) ≤ ((B.length - 1 - i2 : Nat) : Int) ∧ ((B.length - 1 - i2 : Nat) : Int) < (B.length : Nat) := ⟨Int.natCast_nonneg _, by omega⟩
            refine Exists.intro _ (And.intro hwn1 ?_)
            refine Exists.intro _ (And.intro hwn2 ?_)
            have hBs := hB B[B.length - 1 - i2] (List.getElem_mem hKK)
            refine And.intro hnK ?_
            refine Exists.intro 5 (Exists.intro xs1 (Exists.intro e1 (Exists.intro fr1 (And.intro hh1 (Exists.intro _ (And.intro (by rw [Int.toNat_natCast]; exact cK) ?_))))))
            refine VCall.mk [0, 1, 2, 3, 4, 6, 5] (s_Blue h hu x2 ix.hx.v rx0 ro0 rc0 B[B.length - 1 - i2] (by omega) (by omega)) ⟨rfl, rfl, rfl⟩ ?_
            rintro _ _ ⟨rfl, rfl⟩
            refine Exists.intro _ (And.intro hwi2 ?_)
            refine Exists.intro ⟨i2 + 1, blueN x2 B[B.length - 1 - i2], a0, [], 0, 0⟩ (Exists.intro [0, 1, 2, 3, 4, 5, 6] (And.intro ⟨⟨hil, (blue_red _ _).trans hx2, ?_⟩, by simp only; omega⟩ ⟨rfl, rfl, rfl⟩))
            refine (hP2.blue hB' hR' (List.getElem_mem hKK)).weak ?_
            rintro s ⟨j, hj, hjs⟩
            rcases ord_step (np := false) hil hj hjs with e | e
            · exact .inl e
            · have e : some s = B[B.length - 1 - i2]? := e
              rw [List.getElem?_eq_getElem hKK] at e
              exact .inr (Option.some.inj e)
        · have hil : i2 = B.length := by have k5 := of_decide_eq_false k5; simp only at k5; omega
          subst hil
          have hDone : ∀ s, s ∈ B → ∃ j, j < B.length ∧ B[ordB aP.isNone B.length j]? = some s := fun s hs => ord_all hs
          have hw2 : RowG stcl 19 rx0 ro0 rc0 x2.red := by rw [hx2]; exact hw0
          refine VLoop.mk TX (fun y => [(0, .ptr 0 0), (1, .raw (.slice aB B.length cB)), (2, .raw (.slice aR R.length cR)), (3, .raw (.slice aP P.length cP)), (8, iv y.a), (9, iv t)])
            (fun y => hoS y.x y.rx y.ro y.rc h) (fun y => y.a ≤ R.length ∧ RowG stcl 19 y.rx y.ro y.rc y.x.red ∧ PI B R x0 a0 y.x y.a (fun s => ∃ j, j < B.length ∧ B[ordB aP.isNone B.length j]? = some s)) (fun y => R.length - y.a) ⟨0, x2, a0, rx0, ro0, rc0⟩ [0, 1, 2, 3, 4, 5, 6]
            ⟨⟨ix.ha, hw2, hP2⟩, rfl, rfl, rfl⟩ ?_
          rintro ⟨q9, x3, a3, rx3, ro3, rc3⟩ ⟨ha3, hw3, hP3⟩ g4
          simp only at ha3 hw3 hP3
          refine And.intro (fun k6 => ?_) (fun k6 => ?_)
          · skip
            have k6 : (a3 : Int) < (R.length : Nat) := of_decide_eq_true k6
            have hal : a3 < R.length := by omega
            have hwa : IntKind.i64.wrap ((a3 : Int) + 1) = ((a3 + 1 : Nat) : Int) := wrap64 (by omega)
            have ix := hP3.reach.ri hB' hR'
            have hlen := hP3.reach.len hB' hR'
            have q2 := p2 (by omega)
            obtain ⟨rfl, hh2, hcut2⟩ := q2
            have c2' := hcut2 a3 hal
            have hRs := hR R[a3] (List.getElem_mem hal)
            refine And.intro ⟨Int.natCast_nonneg a3, k6⟩ ?_
            refine Exists.intro 5 (Exists.intro xs2 (Exists.intro e2 (Exists.intro fr2 (And.intro hh2 (Exists.intro _ (And.intro (by rw [Int.toNat_natCast]; exact c2') ?_))))))
            refine VCall.mk [0, 1, 2, 3, 4, 6, 5] (s_Do h hu hc x3 (x3.bs.length + a3) ix.hx (by omega) rx3 ro3 rc3 hw3 R[a3] (by omega) (by omega)) ⟨rfl, rfl, rfl⟩ ?_
            rintro _ _ (⟨he, rfl, rfl⟩ | ⟨he, rfl, rx4, ro4, rc4, hw4, rfl⟩)
            · refine And.intro (fun k7 => ?_) (fun k7 => ?_)
              · have hgap : ∀ ha : a3 < R.length, doE x3 R[a3] = 8 := fun _ => of_decide_eq_true k7
                refine Exists.intro _ (And.intro hwt ?_)
                exact Exists.intro ⟨t + 1, x3, a3, rx3, ro3, rc3⟩ (Exists.intro [0, 1, 2, 3, 4, 5, 6] (And.intro ⟨⟨by simp only; omega, hP3.reach, hw3, hP3.turn hDone hgap hm0⟩, by simp only; omega⟩ ⟨rfl, rfl, rfl⟩))
              · have k7 : ¬ doE x3 R[a3] = 8 := of_decide_eq_false k7
                have h1 : doE x3 R[a3] = 1 := by
                  rcases doE_all x3 R[a3] hRs.2 with e | e | e
                  · exact absurd e he
                  · exact e
                  · exact absurd e k7
                refine Exists.intro _ (And.intro hwa ?_)
                exact Exists.intro ⟨0, x3, a3 + 1, rx3, ro3, rc3⟩ (Exists.intro [0, 1, 2, 3, 4, 5, 6] (And.intro ⟨⟨hal, hw3, hP3.skip hal h1⟩, by simp only; omega⟩ ⟨rfl, rfl, rfl⟩))
            · refine And.intro (fun k7 => absurd k7 (by decide)) (fun _ => ?_)
              refine Exists.intro _ (And.intro hwa ?_)
              exact Exists.intro ⟨0, doN x3 R[a3], a3 + 1, rx4, ro4, rc4⟩ (Exists.intro [0, 1, 2, 3, 4, 5, 7] (And.intro ⟨⟨hal, hw4, hP3.red hal he⟩, by simp only; omega⟩ ⟨rfl, rfl, rfl⟩))
          · have hal : a3 = R.length := by have k6 := of_decide_eq_false k6; simp only at k6; omega
            have hgap : ∀ ha : a3 < R.length, doE x3 R[a3] = 8 := fun ha => absurd ha (by omega)
            refine Exists.intro _ (And.intro hwt ?_)
            exact Exists.intro ⟨t + 1, x3, a3, rx3, ro3, rc3⟩ (Exists.intro [0, 1, 2, 3, 4, 5, 6] (And.intro ⟨⟨by simp only; omega, hP3.reach, hw3, hP3.turn hDone hgap hm0⟩, by simp only; omega⟩ ⟨rfl, rfl, rfl⟩))
    · skip
      refine VLoop.mk TX (fun y => [(0, .ptr 0 0), (1, .raw (.slice aB B.length cB)), (2, .raw (.slice aR R.length cR)), (3, .raw (.slice aP P.length cP)), (8, iv a0), (9, iv t), (11, iv y.i)])
        (fun y => hoS y.x rx0 ro0 rc0 h) (fun y => y.i ≤ B.length ∧ y.x.red = x0.red ∧ PI B R x0 a0 y.x a0 (fun s => ∃ j, j < y.i ∧ B[ordB aP.isNone B.length j]? = some s)) (fun y => B.length - y.i) ⟨0, x1, a0, [], 0, 0⟩ [0, 1, 2, 3, 4, 5, 6]
        ⟨⟨Nat.zero_le _, hx1, hP1.weak (fun s ⟨j, hj, _⟩ => absurd hj (Nat.not_lt_zero j))⟩, rfl, rfl, rfl⟩ ?_
      rintro ⟨i2, x2, q5, q6, q7, q8⟩ ⟨hi2, hx2, hP2⟩ g3
      simp only at hi2 hx2 hP2
      have ix := hP2.reach.ri hB' hR'
      refine And.intro (fun k5 => ?_) (fun k5 => ?_)
      · have k5 : (i2 : Int) < (B.length : Nat) := of_decide_eq_true k5
        have hil : i2 < B.length := by omega
        have hwi2 : IntKind.i64.wrap ((i2 : Int) + 1) = ((i2 + 1 : Nat) : Int) := wrap64 (by omega)
        have q1 := p1 (by omega)
        obtain ⟨rfl, hh1, hcut1⟩ := q1
        cases aP with
        | none =>
          have hKK : i2 < B.length := hil
          have cK := hcut1 i2 hil
          have hnK : (0 : Int) ≤ (i2 : Int) ∧ (i2 : Int) < (B.length : Nat) := ⟨Int.natCast_nonneg i2, k5⟩
          have hBs := hB B[i2] (List.getElem_mem hKK)
          refine And.intro hnK ?_
          refine Exists.intro 5 (Exists.intro xs1 (Exists.intro e1 (Exists.intro fr1 (And.intro hh1 (Exists.intro _ (And.intro (by rw [Int.toNat_natCast]; exact cK) ?_))))))
          refine VCall.mk [0, 1, 2, 3, 4, 6, 5] (s_Blue h hu x2 ix.hx.v rx0 ro0 rc0 B[i2] (by omega) (by omega)) ⟨rfl, rfl, rfl⟩ ?_
          rintro _ _ ⟨rfl, rfl⟩
          refine Exists.intro _ (And.intro hwi2 ?_)
          refine Exists.intro ⟨i2 + 1, blueN x2 B[i2], a0, [], 0, 0⟩ (Exists.intro [0, 1, 2, 3, 4, 5, 6] (And.intro ⟨⟨hil, (blue_red _ _).trans hx2, ?_⟩, by simp only; omega⟩ ⟨rfl, rfl, rfl⟩))
          refine (hP2.blue hB' hR' (List.getElem_mem hil)).weak ?_
          rintro s ⟨j, hj, hjs⟩
          rcases ord_step (np := true) hil hj hjs with e | e
          · exact .inl e
          · have e : some s = B[i2]? := e
            rw [List.getElem?_eq_getElem hil] at e
            exact .inr (Option.some.inj e)
        | some aP =>
          have hwn1 : IntKind.i64.wrap ((B.length : Nat) - 1 : Int) = ((B.length - 1 : Nat) : Int) := by rw [wrap64 (by omega)]; omega
          have hwn2 : IntKind.i64.wrap (((B.length - 1 : Nat) : Int) - (i2 : Int)) = ((B.length - 1 - i2 : Nat) : Int) := by rw [wrap64 (by omega)]; omega
          have hKK : B.length - 1 - i2 < B.length := by omega
          have cK := hcut1 (B.length - 1 - i2) hKK
          have hnK : (0 : Int) ≤ ((B.length - 1 - i2 : Nat) : Int) ∧ ((B.length - 1 - i2 : Nat) : Int) < (B.length : Nat) := ⟨Int.natCast_nonneg _, by omega⟩
          refine Exists.intro _ (And.intro hwn1 ?_)
          refine Exists.intro _ (And.intro hwn2 ?_)
          have hBs := hB B[B.length - 1 - i2] (List.getElem_mem hKK)
          refine And.intro hnK ?_
          refine Exists.intro 5 (Exists.intro xs1 (Exists.intro e1 (Exists.intro fr1 (And.intro hh1 (Exists.intro _ (And.intro (by rw [Int.toNat_natCast]; exact cK) ?_))))))
          refine VCall.mk [0, 1, 2, 3, 4, 6, 5] (s_Blue h hu x2 ix.hx.v rx0 ro0 rc0 B[B.length - 1 - i2] (by omega) (by omega)) ⟨rfl, rfl, rfl⟩ ?_
          rintro _ _ ⟨rfl, rfl⟩
          refine Exists.intro _ (And.intro hwi2 ?_)
          refine Exists.intro ⟨i2 + 1, blueN x2 B[B.length - 1 - i2], a0, [], 0, 0⟩ (Exists.intro [0, 1, 2, 3, 4, 5, 6] (And.intro ⟨⟨hil, (blue_red _ _).trans hx2, ?_⟩, by simp only; omega⟩ ⟨rfl, rfl, rfl⟩))
          refine (hP2.blue hB' hR' (List.getElem_mem hKK)).weak ?_
          rintro s ⟨j, hj, hjs⟩
          rcases ord_step (np := false) hil hj hjs with e | e
          · exact .inl e
          · have e : some s = B[B.length - 1 - i2]? := e
            rw [List.getElem?_eq_getElem hKK] at e
            exact .inr (Option.some.inj e)
      · have hil : i2 = B.length := by have k5 := of_decide_eq_false k5; simp only at k5; omega
        subst hil
        have hDone : ∀ s, s ∈ B → ∃ j, j < B.length ∧ B[ordB aP.isNone B.length j]? = some s := fun s hs => ord_all hs
        have hw2 : RowG stcl 19 rx0 ro0 rc0 x2.red := by rw [hx2]; exact hw0
        refine VLoop.mk TX (fun y => [(0, .ptr 0 0), (1, .raw (.slice aB B.length cB)), (2, .raw (.slice aR R.length cR)), (3, .raw (.slice aP P.length cP)), (8, iv y.a), (9, iv t)])
          (fun y => hoS y.x y.rx y.ro y.rc h) (fun y => y.a ≤ R.length ∧ RowG stcl 19 y.rx y.ro y.rc y.x.red ∧ PI B R x0 a0 y.x y.a (fun s => ∃ j, j < B.length ∧ B[ordB aP.isNone B.length j]? = some s)) (fun y => R.length - y.a) ⟨0, x2, a0, rx0, ro0, rc0⟩ [0, 1, 2, 3, 4, 5, 6]
          ⟨⟨ix.ha, hw2, hP2⟩, rfl, rfl, rfl⟩ ?_
        rintro ⟨q9, x3, a3, rx3, ro3, rc3⟩ ⟨ha3, hw3, hP3⟩ g4
        simp only at ha3 hw3 hP3
        refine And.intro (fun k6 => ?_) (fun k6 => ?_)
        · skip
          have k6 : (a3 : Int) < (R.length : Nat) := of_decide_eq_true k6
          have hal : a3 < R.length := by omega
          have hwa : IntKind.i64.wrap ((a3 : Int) + 1) = ((a3 + 1 : Nat) : Int) := wrap64 (by omega)
          have ix := hP3.reach.ri hB' hR'
          have hlen := hP3.reach.len hB' hR'
          have q2 := p2 (by omega)
          obtain ⟨rfl, hh2, hcut2⟩ := q2
          have c2' := hcut2 a3 hal
          have hRs := hR R[a3] (List.getElem_mem hal)
          refine And.intro ⟨Int.natCast_nonneg a3, k6⟩ ?_
          refine Exists.intro 5 (Exists.intro xs2 (Exists.intro e2 (Exists.intro fr2 (And.intro hh2 (Exists.intro _ (And.intro (by rw [Int.toNat_natCast]; exact c2') ?_))))))
          refine VCall.mk [0, 1, 2, 3, 4, 6, 5] (s_Do h hu hc x3 (x3.bs.length + a3) ix.hx (by omega) rx3 ro3 rc3 hw3 R[a3] (by omega) (by omega)) ⟨rfl, rfl, rfl⟩ ?_
          rintro _ _ (⟨he, rfl, rfl⟩ | ⟨he, rfl, rx4, ro4, rc4, hw4, rfl⟩)
          · refine And.intro (fun k7 => ?_) (fun k7 => ?_)
            · have hgap : ∀ ha : a3 < R.length, doE x3 R[a3] = 8 := fun _ => of_decide_eq_true k7
              refine Exists.intro _ (And.intro hwt ?_)
              exact Exists.intro ⟨t + 1, x3, a3, rx3, ro3, rc3⟩ (Exists.intro [0, 1, 2, 3, 4, 5, 6] (And.intro ⟨⟨by simp only; omega, hP3.reach, hw3, hP3.turn hDone hgap hm0⟩, by simp only; omega⟩ ⟨rfl, rfl, rfl⟩))
            · have k7 : ¬ doE x3 R[a3] = 8 := of_decide_eq_false k7
              have h1 : doE x3 R[a3] = 1 := by
                rcases doE_all x3 R[a3] hRs.2 with e | e | e
                · exact absurd e he
                · exact e
                · exact absurd e k7
              refine Exists.intro _ (And.intro hwa ?_)
              exact Exists.intro ⟨0, x3, a3 + 1, rx3, ro3, rc3⟩ (Exists.intro [0, 1, 2, 3, 4, 5, 6] (And.intro ⟨⟨hal, hw3, hP3.skip hal h1⟩, by simp only; omega⟩ ⟨rfl, rfl, rfl⟩))
          · refine And.intro (fun k7 => absurd k7 (by decide)) (fun _ => ?_)
            refine Exists.intro _ (And.intro hwa ?_)
            exact Exists.intro ⟨0, doN x3 R[a3], a3 + 1, rx4, ro4, rc4⟩ (Exists.intro [0, 1, 2, 3, 4, 5, 7] (And.intro ⟨⟨hal, hw4, hP3.red hal he⟩, by simp only; omega⟩ ⟨rfl, rfl, rfl⟩))
        · have hal : a3 = R.length := by have k6 := of_decide_eq_false k6; simp only at k6; omega
          have hgap : ∀ ha : a3 < R.length, doE x3 R[a3] = 8 := fun ha => absurd ha (by omega)
          refine Exists.intro _ (And.intro hwt ?_)
          exact Exists.intro ⟨t + 1, x3, a3, rx3, ro3, rc3⟩ (Exists.intro [0, 1, 2, 3, 4, 5, 6] (And.intro ⟨⟨by simp only; omega, hP3.reach, hw3, hP3.turn hDone hgap hm0⟩, by simp only; omega⟩ ⟨rfl, rfl, rfl⟩))
  · have htl : t = B.length + R.length + 1 := by have k1 := of_decide_eq_false k1; simp only at k1; omega
    have hlen := hr0.len hB' hR'
    have hst : Stuck B R x0 a0 := by
      rcases hm0 with k | k
      · exact k
      · unfold meas at k; omega
    exact VRet.mk [0, 1, 2, 3, 4, 5, 6] (.tup []) (hoS x0 rx0 ro0 rc0 h) ⟨rfl, rfl, rfl⟩ ⟨rfl, x0, a0, rx0, ro0, rc0, hr0, hst, hw0, rfl⟩
end Go.Proofs

namespace Go.Proofs
open Go Go.V Go.Lib
set_option maxRecDepth 100000
set_option linter.unusedVariables false

theorem cut_sub {xs : List Value} {o n : Nat} {l : List Value} (h : V.cut xs o n = some l) (j k : Nat) (hk : j + k ≤ n) : V.cut xs (o + j) k = some ((l.drop j).take k) := by
  obtain ⟨h1, h2⟩ := cut_spec h
  by_cases h0 : k = 0
  · subst h0
    simp only [List.take_zero]
    cases xs <;> cases (o + j) <;> rfl
  · have hlen : o + j + k ≤ xs.length := by
      have h3 := h2 (j + k - 1) (by omega)
      have h4 : j + k - 1 < l.length := by omega
      rw [List.getElem?_eq_getElem h4] at h3
      have := (List.getElem?_eq_some_iff.1 h3.symm).1
      omega
    rw [cut_take xs (o + j) k hlen]
    congr 1
    apply List.ext_getElem?
    intro i
    by_cases hi : i < k
    · rw [List.getElem?_take_of_lt hi, List.getElem?_drop, List.getElem?_take_of_lt hi, List.getElem?_drop, h2 (j + i) (by omega)]
      congr 1; omega
    · rw [List.getElem?_eq_none (by simp; omega), List.getElem?_eq_none (by simp; omega)]

set_option maxHeartbeats 2000000 in
theorem RI.sm {B R : List ST} (hB : ∀ s, s ∈ B → s.name.size ≤ 100 ∧ s.user.size ≤ 100) {x : HL} {a : Nat} (h : RI B R x a) (d : Int × Int) : Sm (stAt x d) := by
  unfold stAt
  cases hq : MP.get x.bs d with
  | none => exact sm_zero
  | some s =>
    obtain ⟨m1, _, m3⟩ := h.mem d s hq
    have := hB s m1
    show Sm s
    exact good_sm m3 (by omega) (by omega)
theorem RI.smr {B R : List ST} (hR : ∀ s, s ∈ R → (s.name.size ≤ 100 ∧ s.user.size ≤ 100) ∧ redT s = true) {x : HL} {a : Nat} (h : RI B R x a) (s : ST) (hs : s ∈ x.red) : Sm s := by
  rw [h.red] at hs
  have hs := List.mem_filter.1 hs
  have := hR s (List.mem_of_mem_take hs.1)
  exact good_sm hs.2 (by omega) (by omega)
def okB (B : List ST) (p : Nat) : Prop := ∀ s, B[p]? = some s → (s.name.size ≤ 100 ∧ s.user.size ≤ 100) ∧ ∀ q t, q < p → B[q]? = some t → ¬ (s.rep = t.rep ∧ s.n = t.n)
set_option maxHeartbeats 4000000 in
theorem s_AuctOrder (h : Nat → Option Obj) (hu : Uni h) (hc : CaseH h) (vB : Value) (B : List ST) (hvB : RowsIs stcl 19 h vB B) (_ : True) (vR : Value) (R : List ST) (hvR : RowsIs stcl 19 h vR R) (_ : True) (vP : Value) (P : List Int) (hvP : RowsIs intcl 1 h vP P) (_ : True) :
    Ctr Tryd.prog F_rostrumlaw24_AuctOrder [.raw vB, .raw vR, .raw vP] [.heap h] (fun r H => r = bv true ∧ H = [.heap h]) := by
  obtain ⟨aB, cB, rfl⟩ := hvB.shape
  obtain ⟨aR, cR, rfl⟩ := hvR.shape
  obtain ⟨aP, cP, rfl⟩ := hvP.shape
  have p1 := hvB.pos
  have p2 := hvR.pos
  obtain ⟨b1, o1, xs1, e1, fr1, p1⟩ := p1
  obtain ⟨b2, o2, xs2, e2, fr2, p2⟩ := p2
  have fin : ∀ l : List SO, VRet 1 (bv true) (.heap h :: l) (fun r H => r = bv true ∧ H = [.heap h]) := fun l => VRet.mk [0] (bv true) [.heap h] ⟨rfl, rfl, rfl⟩ ⟨rfl, rfl⟩
  refine i_rostrumlaw24_AuctOrder.spec follows ?_
  refine VCall.mk [0] (s_awake h hu hc) ⟨rfl, rfl, rfl⟩ ?_
  rintro _ _ ⟨rfl, rfl⟩
  refine And.intro (fun k => absurd k (by decide)) (fun _ => ?_)
  refine And.intro (fun k1 => ?_) (fun k1 => fin _)
  refine And.intro (fun k2 => ?_) (fun k2 => fin _)
  refine And.intro (fun k3 => fin _) (fun k3 => ?_)
  have k1 : ¬ (20 : Int) < (B.length : Nat) := of_decide_eq_false k1
  have k2 : ¬ (10 : Int) < (R.length : Nat) := of_decide_eq_false k2
  have k3 : ¬ (200 : Int) < (P.length : Nat) := of_decide_eq_false k3
  refine VLoop.mk Nat (fun i => [(0, .raw (.slice aB B.length cB)), (1, .raw (.slice aR R.length cR)), (2, .raw (.slice aP P.length cP)), (7, iv i)]) (fun i => [.heap h]) (fun i => i ≤ B.length ∧ ∀ p, p < i → okB B p ∧ ∀ s, B[p]? = some s → redT s = false) (fun i => B.length - i) 0 [0]
    ⟨⟨Nat.zero_le _, fun p hp => absurd hp (Nat.not_lt_zero p)⟩, rfl, rfl, rfl⟩ ?_
  rintro i ⟨hi, hok⟩ g
  refine And.intro (fun t1 => ?_) (fun t1 => ?_)
  · have t1 : (i : Int) < (B.length : Nat) := of_decide_eq_true t1
    have hil : i < B.length := by omega
    have hwi : IntKind.i64.wrap ((i : Int) + 1) = ((i + 1 : Nat) : Int) := wrap64 (by omega)
    have q1 := p1 (by omega)
    obtain ⟨rfl, hh1, hcut1⟩ := q1
    have ci := hcut1 i hil
    have ci2 := cut_sub ci 1 2 (by omega)
    have hni : (0 : Int) ≤ (i : Int) ∧ (i : Int) < (B.length : Nat) := ⟨Int.natCast_nonneg i, t1⟩
    refine VLoop.mk Nat (fun k => [(0, .raw (.slice (some ⟨b1, o1, none⟩) B.length cB)), (1, .raw (.slice aR R.length cR)), (2, .raw (.slice aP P.length cP)), (7, iv i), (8, iv k)]) (fun k => [.heap h]) (fun k => k ≤ i ∧ ∀ q t, q < k → B[q]? = some t → ¬ (B[i].rep = t.rep ∧ B[i].n = t.n)) (fun k => i - k) 0 [0]
      ⟨⟨Nat.zero_le _, fun q t hq => absurd hq (Nat.not_lt_zero q)⟩, rfl, rfl, rfl⟩ ?_
    rintro k ⟨hk, hdk⟩ g2
    refine And.intro (fun t2 => ?_) (fun t2 => ?_)
    · have t2 : (k : Int) < (i : Nat) := of_decide_eq_true t2
      have hki : k < i := by omega
      have hwk : IntKind.i64.wrap ((k : Int) + 1) = ((k + 1 : Nat) : Int) := wrap64 (by omega)
      have ck := hcut1 k (by omega)
      have ck2 := cut_sub ck 1 2 (by omega)
      have hnk : (0 : Int) ≤ (k : Int) ∧ (k : Int) < (B.length : Nat) := ⟨Int.natCast_nonneg k, by omega⟩
      refine And.intro hni ?_
      refine Exists.intro 0 (Exists.intro xs1 (Exists.intro e1 (Exists.intro fr1 (And.intro hh1 (Exists.intro _ (And.intro (by rw [Int.toNat_natCast]; exact ci2) ?_))))))
      refine And.intro hnk ?_
      refine Exists.intro 0 (Exists.intro xs1 (Exists.intro e1 (Exists.intro fr1 (And.intro hh1 (Exists.intro _ (And.intro (by rw [Int.toNat_natCast]; exact ck2) ?_))))))
      refine And.intro (fun t3 => fin _) (fun t3 => ?_)
      refine Exists.intro _ (And.intro hwk ?_)
      refine Exists.intro (k + 1) (Exists.intro [0] (And.intro ⟨⟨hki, fun q t hq ht => ?_⟩, by omega⟩ ⟨rfl, rfl, rfl⟩))
      by_cases e : q = k
      · subst e
        rw [List.getElem?_eq_getElem (by omega)] at ht
        cases ht
        have t3 : (decide (B[i].rep = B[q].rep) && decide (B[i].n = B[q].n)) = false := t3
        intro k9
        rw [decide_eq_true k9.1, decide_eq_true k9.2] at t3
        cases t3
      · exact hdk q t (by omega) ht
    · have hki : k = i := by have t2 := of_decide_eq_false t2; omega
      subst hki
      refine And.intro hni ?_
      refine Exists.intro 0 (Exists.intro xs1 (Exists.intro e1 (Exists.intro fr1 (And.intro hh1 (Exists.intro _ (And.intro (by rw [Int.toNat_natCast]; exact ci) ?_))))))
      refine VCall.mk [] (s_long B[k]) ⟨rfl, rfl, rfl⟩ ?_
      rintro _ _ ⟨rfl, rfl⟩
      refine And.intro (fun t4 => ?_) (fun t4 => fin _)
      have hlg := long_not t4
      refine And.intro hni ?_
      refine Exists.intro 0 (Exists.intro xs1 (Exists.intro e1 (Exists.intro fr1 (And.intro hh1 (Exists.intro _ (And.intro (by rw [Int.toNat_natCast]; exact ci) ?_))))))
      refine VCall.mk [] (s_Red B[k]) ⟨rfl, rfl, rfl⟩ ?_
      rintro _ _ ⟨rfl, rfl⟩
      refine And.intro (fun t5 => fin _) (fun t5 => ?_)
      refine Exists.intro _ (And.intro hwi ?_)
      refine Exists.intro (k + 1) (Exists.intro [0] (And.intro ⟨⟨hil, fun p hp => ?_⟩, by omega⟩ ⟨rfl, rfl, rfl⟩))
      by_cases e : p = k
      · subst e
        refine ⟨fun s hs => ?_, fun s hs => ?_⟩
        · rw [List.getElem?_eq_getElem hil] at hs
          cases hs
          exact ⟨hlg, fun q t hq ht => hdk q t hq ht⟩
        · rw [List.getElem?_eq_getElem hil] at hs
          cases hs
          exact t5
      · exact hok p (by omega)
  have hil : i = B.length := by have t1 := of_decide_eq_false t1; omega
  subst hil
  refine VLoop.mk Nat (fun j => [(0, .raw (.slice aB B.length cB)), (1, .raw (.slice aR R.length cR)), (2, .raw (.slice aP P.length cP)), (9, iv j)]) (fun j => [.heap h]) (fun j => j ≤ R.length ∧ ∀ p, p < j → ∀ s, R[p]? = some s → (s.name.size ≤ 100 ∧ s.user.size ≤ 100) ∧ redT s = true) (fun j => R.length - j) 0 [0]
    ⟨⟨Nat.zero_le _, fun p hp => absurd hp (Nat.not_lt_zero p)⟩, rfl, rfl, rfl⟩ ?_
  rintro j ⟨hj, hokR⟩ g2
  refine And.intro (fun t1 => ?_) (fun t1 => ?_)
  · have t1 : (j : Int) < (R.length : Nat) := of_decide_eq_true t1
    have hjl : j < R.length := by omega
    have hwj : IntKind.i64.wrap ((j : Int) + 1) = ((j + 1 : Nat) : Int) := wrap64 (by omega)
    have q2 := p2 (by omega)
    obtain ⟨rfl, hh2, hcut2⟩ := q2
    have cj := hcut2 j hjl
    have hnj : (0 : Int) ≤ (j : Int) ∧ (j : Int) < (R.length : Nat) := ⟨Int.natCast_nonneg j, t1⟩
    refine And.intro hnj ?_
    refine Exists.intro 0 (Exists.intro xs2 (Exists.intro e2 (Exists.intro fr2 (And.intro hh2 (Exists.intro _ (And.intro (by rw [Int.toNat_natCast]; exact cj) ?_))))))
    refine VCall.mk [] (s_long R[j]) ⟨rfl, rfl, rfl⟩ ?_
    rintro _ _ ⟨rfl, rfl⟩
    refine And.intro (fun t4 => ?_) (fun t4 => fin _)
    have hlg := long_not t4
    refine And.intro hnj ?_
    refine Exists.intro 0 (Exists.intro xs2 (Exists.intro e2 (Exists.intro fr2 (And.intro hh2 (Exists.intro _ (And.intro (by rw [Int.toNat_natCast]; exact cj) ?_))))))
    refine VCall.mk [] (s_Red R[j]) ⟨rfl, rfl, rfl⟩ ?_
    rintro _ _ ⟨rfl, rfl⟩
    refine And.intro (fun t5 => fin _) (fun t5 => ?_)
    refine Exists.intro _ (And.intro hwj ?_)
    refine Exists.intro (j + 1) (Exists.intro [0] (And.intro ⟨⟨hjl, fun p hp s hs => ?_⟩, by omega⟩ ⟨rfl, rfl, rfl⟩))
    by_cases e : p = j
    · subst e
      rw [List.getElem?_eq_getElem hjl] at hs
      cases hs
      exact ⟨hlg, by simpa using t5⟩
    · exact hokR p (by omega) s hs
  have hjl : j = R.length := by have t1 := of_decide_eq_false t1; omega
  subst hjl
  have hB : ∀ s, s ∈ B → s.name.size ≤ 100 ∧ s.user.size ≤ 100 := fun s hs => by
    obtain ⟨p, hp, rfl⟩ := List.mem_iff_getElem.1 hs
    exact ((hok p hp).1 _ (List.getElem?_eq_getElem hp)).1
  have hR : ∀ s, s ∈ R → (s.name.size ≤ 100 ∧ s.user.size ≤ 100) ∧ redT s = true := fun s hs => by
    obtain ⟨p, hp, rfl⟩ := List.mem_iff_getElem.1 hs
    exact hokR p hp _ (List.getElem?_eq_getElem hp)
  have hD : ∀ s t, s ∈ B → t ∈ B → s.rep = t.rep → s.n = t.n → s = t := fun s t hs ht r1 r2 => by
    obtain ⟨p, hp, rfl⟩ := List.mem_iff_getElem.1 hs
    obtain ⟨q, hq, rfl⟩ := List.mem_iff_getElem.1 ht
    rcases Nat.lt_trichotomy p q with e | e | e
    · exact absurd ⟨r1.symm, r2.symm⟩ (((hok q hq).1 _ (List.getElem?_eq_getElem hq)).2 p _ e (List.getElem?_eq_getElem hp))
    · subst e; rfl
    · exact absurd ⟨r1, r2⟩ (((hok p hp).1 _ (List.getElem?_eq_getElem hp)).2 q _ e (List.getElem?_eq_getElem hq))
  have hB' : ∀ s, s ∈ B → s.user.size ≤ 1000 := fun s hs => by have := hB s hs; omega
  have hR' : ∀ s, s ∈ R → redT s = true := fun s hs => (hR s hs).2
  refine VCall.mk [] s_New2 ⟨rfl, rfl, rfl⟩ ?_
  rintro _ _ ⟨rfl, rfl⟩
  refine VCall.mk [] s_New2 ⟨rfl, rfl, rfl⟩ ?_
  rintro _ _ ⟨rfl, rfl⟩
  refine VCall.mk [1, 2, 3, 4, 5, 0] (s_settle h hu hc B R [] _ _ (.slice none 0 0) hvB hvR (.inl ⟨⟨none, 0, rfl⟩, rfl⟩) (by omega) (by omega) (Nat.zero_le _) hB hR) ⟨rfl, rfl, rfl⟩ ?_
  rintro _ _ ⟨rfl, x, a, rx, ro, rc, hrx, hsx, hwx, rfl⟩
  refine VCall.mk [6, 7, 8, 9, 10, 0] (s_settle h hu hc B R P _ _ _ hvB hvR hvP (by omega) (by omega) (by omega) hB hR) ⟨rfl, rfl, rfl⟩ ?_
  rintro _ _ ⟨rfl, y, b, qx, qo, qc, hry, hsy, hwy, rfl⟩
  obtain ⟨z1, z2, z3⟩ := same_end hB' hR' hD hrx hsx hry hsy
  have ix := hrx.ri hB' hR'
  have iy := hry.ri hB' hR'
  have lx := hrx.len hB' hR'
  have ly := hry.len hB' hR'
  refine VCall.mk [1, 2, 3, 4, 5, 11, 6, 7, 8, 9, 10, 12] (s_Same x y (x.bs.length + a) (y.bs.length + b) ix.hx iy.hx (by omega) (by omega) (ix.sm hB) (ix.smr hR) (iy.sm hB) (iy.smr hR) rx ro rc hwx qx qo qc hwy z1) ⟨rfl, rfl, rfl⟩ ?_
  rintro _ _ ⟨rfl, rfl⟩
  refine And.intro (fun _ => ?_) (fun k => absurd k (by decide))
  refine VCall.mk [1, 2, 3, 4, 5, 11] (s_Reds x rx ro rc) ⟨rfl, rfl, rfl⟩ ?_
  rintro _ _ ⟨rfl, rfl⟩
  refine VCall.mk [6, 7, 8, 9, 10, 12] (s_Reds y qx qo qc) ⟨rfl, rfl, rfl⟩ ?_
  rintro _ _ ⟨rfl, rfl⟩
  refine And.intro (fun _ => ?_) (fun k => absurd k (by rw [z2, decide_eq_true rfl]; decide))
  refine VCall.mk [1, 2, 3, 4, 5, 11] (s_Have x rx ro rc) ⟨rfl, rfl, rfl⟩ ?_
  rintro _ _ ⟨rfl, rfl⟩
  refine VCall.mk [6, 7, 8, 9, 10, 12] (s_Have y qx qo qc) ⟨rfl, rfl, rfl⟩ ?_
  rintro _ _ ⟨rfl, rfl⟩
  refine VRet.mk [0] (bv _) [.heap h] ⟨rfl, rfl, rfl⟩ ⟨?_, rfl⟩
  simp only [z3 0 (by omega), z3 1 (by omega), z3 2 (by omega), z3 3 (by omega), z3 4 (by omega), z3 5 (by omega), z3 6 (by omega), decide_true, Bool.and_true]
end Go.Proofs

