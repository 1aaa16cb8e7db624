/- Part of the proof that the statement named in the last file holds: lemmas of the prover's own. No conditions. -/
import Derived.Test.YtpohkechagmjdaaDoorDB
namespace Go.Proofs
open Go Go.V Go.Lib
set_option maxRecDepth 100000
set_option linter.unusedVariables false

/-! ### What a house answers, reckoned -/
def ltDB (a b : Int × Int) : Bool := decide (a.1 < b.1) || (decide (a.1 = b.1) && decide (a.2 < b.2))
theorem ltDB_iff {a b : Int × Int} : ltDB a b = true ↔ ltDD a b := by simp [ltDB, ltDD]
def insD (d : Int × Int) : List (Int × Int) → List (Int × Int)
  | [] => [d]
  | e :: l => bif ltDB d e then d :: e :: l else e :: insD d l
def sortD (l : List (Int × Int)) : List (Int × Int) := l.foldr insD []
theorem mem_insD {d x : Int × Int} : ∀ {l : List (Int × Int)}, x ∈ insD d l ↔ x = d ∨ x ∈ l
  | [] => by simp [insD]
  | e :: l => by
    unfold insD
    cases ltDB d e
    · simp only [cond_false, List.mem_cons, mem_insD (l := l)]
      constructor
      · rintro (h | h | h)
        · exact .inr (.inl h)
        · exact .inl h
        · exact .inr (.inr h)
      · rintro (h | h | h)
        · exact .inr (.inl h)
        · exact .inl h
        · exact .inr (.inr h)
    · simp
theorem mem_sortD {x : Int × Int} : ∀ {l : List (Int × Int)}, x ∈ sortD l ↔ x ∈ l
  | [] => by simp [sortD]
  | e :: l => by
    show x ∈ insD e (sortD l) ↔ _
    rw [mem_insD, mem_sortD (l := l), List.mem_cons]
theorem ltDD.trans {a b c : Int × Int} (h1 : ltDD a b) (h2 : ltDD b c) : ltDD a c := by unfold ltDD at *; omega
theorem ltDD.irr {a : Int × Int} : ¬ ltDD a a := by unfold ltDD; omega
theorem ltDD.tri {a b : Int × Int} (h : a ≠ b) : ltDD a b ∨ ltDD b a := by
  obtain ⟨a1, a2⟩ := a
  obtain ⟨b1, b2⟩ := b
  simp only [ne_eq, Prod.mk.injEq] at h
  unfold ltDD
  simp only
  omega
theorem srt_insD {d : Int × Int} : ∀ {l : List (Int × Int)}, l.Pairwise ltDD → d ∉ l → (insD d l).Pairwise ltDD
  | [], _, _ => by simp [insD]
  | e :: l, h, hd => by
    simp only [List.pairwise_cons] at h
    simp only [List.mem_cons, not_or] at hd
    unfold insD
    cases hq : ltDB d e
    · refine List.pairwise_cons.2 ⟨fun x hx => ?_, srt_insD h.2 hd.2⟩
      rcases mem_insD.1 hx with h1 | h1
      · subst h1
        rcases ltDD.tri hd.1 with h2 | h2
        · rw [ltDB_iff.2 h2] at hq; cases hq
        · exact h2
      · exact h.1 x h1
    · have hq := ltDB_iff.1 hq
      refine List.pairwise_cons.2 ⟨fun x hx => ?_, List.pairwise_cons.2 h⟩
      rcases List.mem_cons.1 hx with h1 | h1
      · subst h1; exact hq
      · exact hq.trans (h.1 x h1)
theorem srt_sortD : ∀ {l : List (Int × Int)}, l.Nodup → (sortD l).Pairwise ltDD
  | [], _ => by simp [sortD]
  | e :: l, h => by
    have h := List.nodup_cons.1 h
    exact srt_insD (srt_sortD h.2) (fun k => h.1 (mem_sortD.1 k))
theorem srt_ext : ∀ {l m : List (Int × Int)}, l.Pairwise ltDD → m.Pairwise ltDD → (∀ x, x ∈ l ↔ x ∈ m) → l = m
  | [], [], _, _, _ => rfl
  | [], b :: m, _, _, h => absurd ((h b).2 (by simp)) (by simp)
  | a :: l, [], _, _, h => absurd ((h a).1 (by simp)) (by simp)
  | a :: l, b :: m, hl, hm, h => by
    have hl := List.pairwise_cons.1 hl
    have hm := List.pairwise_cons.1 hm
    have hab : a = b := by
      have h1 := List.mem_cons.1 ((h a).1 (by simp))
      have h2 := List.mem_cons.1 ((h b).2 (by simp))
      rcases h1 with h1 | h1
      · exact h1
      · rcases h2 with h2 | h2
        · exact h2.symm
        · exact absurd ((hm.1 a h1).trans (hl.1 b h2)) ltDD.irr
    subst hab
    congr 1
    refine srt_ext hl.2 hm.2 fun x => ⟨fun hx => ?_, fun hx => ?_⟩
    · rcases List.mem_cons.1 ((h x).1 (List.mem_cons.2 (.inr hx))) with h1 | h1
      · subst h1; exact absurd (hl.1 x hx) ltDD.irr
      · exact h1
    · rcases List.mem_cons.1 ((h x).2 (List.mem_cons.2 (.inr hx))) with h1 | h1
      · subst h1; exact absurd (hm.1 x hx) ltDD.irr
      · exact h1
/-- An auction's bids, in order. -/
def bidsF (bs : MB) (a : Int × Int) (sv : Nat → Int) : List (Int × Int) := sortD (((bs.filter (bidE a sv)).map (·.1)).filter fun d => !bs.any (canE sv d))
theorem bidsF_is {bs : MB} {a : Int × Int} {sv : Nat → Int} (hnd : (bs.map (·.1)).Nodup) : BidsL bs a sv (bidsF bs a sv) where
  srt := by
    exact srt_sortD (List.Sublist.nodup List.filter_sublist (List.Sublist.nodup (List.Sublist.map _ List.filter_sublist) hnd))
  mem := fun d => by
    rw [bidsF, mem_sortD, List.mem_filter, List.mem_map]
    constructor
    · rintro ⟨⟨e, he, rfl⟩, h2⟩
      have he := List.mem_filter.1 he
      refine ⟨⟨e, he.1, rfl, he.2⟩, ?_⟩
      rintro ⟨e', h3, h4⟩
      rw [List.any_eq_true.2 ⟨e', h3, h4⟩] at h2; cases h2
    · rintro ⟨⟨e, h1, rfl, h2⟩, h3⟩
      refine ⟨⟨e, List.mem_filter.2 ⟨h1, h2⟩, rfl⟩, ?_⟩
      cases hq : bs.any (canE sv e.1) with
      | false => rfl
      | true => exact absurd (List.any_eq_true.1 hq) h3
theorem BidsL.eq {bs : MB} {a : Int × Int} {sv : Nat → Int} {l : List (Int × Int)} (h : BidsL bs a sv l) (hnd : (bs.map (·.1)).Nodup) : l = bidsF bs a sv :=
  srt_ext h.srt (bidsF_is hnd).srt fun x => by rw [h.mem, (bidsF_is hnd).mem]
def gtBB (bs : MB) (a b : Int × Int) : Bool := decide (amt bs b < amt bs a) || (decide (amt bs a = amt bs b) && ltDB a b)
theorem gtBB_iff {bs : MB} {a b : Int × Int} : gtBB bs a b = true ↔ gtB bs a b := by simp [gtBB, gtB, ltDB_iff]
theorem gtB.trans {bs : MB} {a b c : Int × Int} (h1 : gtB bs a b) (h2 : gtB bs b c) : gtB bs a c := by unfold gtB ltDD at *; omega
theorem gtB.tri {bs : MB} {a b : Int × Int} (h : a ≠ b) : gtB bs a b ∨ gtB bs b a := by
  have := ltDD.tri h
  unfold gtB
  rcases this with h | h <;> by_cases h1 : amt bs a < amt bs b <;> by_cases h2 : amt bs b < amt bs a <;> simp [h1, h2, h] <;> omega
/-- The best of a row of bids. -/
def bestF (bs : MB) : List (Int × Int) → Option (Int × Int)
  | [] => none
  | d :: t => some (t.foldl (fun m e => bif gtBB bs e m then e else m) d)
theorem bestF_fold {bs : MB} : ∀ (t : List (Int × Int)) (d : Int × Int), (t.foldl (fun m e => bif gtBB bs e m then e else m) d) ∈ d :: t ∧ ∀ e, e ∈ d :: t → ¬ gtB bs e (t.foldl (fun m e => bif gtBB bs e m then e else m) d)
  | [], d => ⟨by simp, fun e he => by simp at he; subst he; exact gtB_irr⟩
  | x :: t, d => by
    simp only [List.foldl_cons]
    cases hq : gtBB bs x d
    · obtain ⟨h1, h2⟩ := bestF_fold t d
      simp only [cond_false]
      refine ⟨?_, fun e he => ?_⟩
      · rcases List.mem_cons.1 h1 with h | h
        · rw [h]; simp
        · simp [h]
      · rcases List.mem_cons.1 he with h | h
        · exact h2 e (by simp [h])
        · rcases List.mem_cons.1 h with h | h
          · subst h
            intro k
            have h3 := h2 d (by simp)
            have hq : ¬ gtB bs e d := fun k => by rw [gtBB_iff.2 k] at hq; cases hq
            exact (gtB_keep k h3) |> fun h => by
              unfold gtB ltDD at *
              omega
          · exact h2 e (by simp [h])
    · obtain ⟨h1, h2⟩ := bestF_fold t x
      simp only [cond_true]
      have hq := gtBB_iff.1 hq
      refine ⟨by simp only [List.mem_cons] at h1 ⊢; exact .inr h1, fun e he => ?_⟩
      rcases List.mem_cons.1 he with h | h
      · subst h
        intro k
        exact h2 x (by simp) (hq.trans k)
      · exact h2 e h
theorem bestF_is (bs : MB) : ∀ d : List (Int × Int), BestO bs d (bestF bs d)
  | [] => rfl
  | d :: t => bestF_fold t d
theorem BestO.eq {bs : MB} : ∀ {d : List (Int × Int)} {m : Option (Int × Int)}, BestO bs d m → m = bestF bs d
  | [], none, _ => rfl
  | [], some m, h => absurd h.1 (by simp)
  | d :: t, none, h => absurd h (by simp [BestO])
  | d :: t, some m, h => by
    have h' := bestF_fold (bs := bs) t d
    show some m = some _
    congr 1
    generalize hb : t.foldl (fun m e => bif gtBB bs e m then e else m) d = b at h'
    by_cases e : m = b
    · exact e
    · rcases gtB.tri (bs := bs) e with k | k
      · exact absurd k (h'.2 m h.1)
      · exact absurd k (h.2 b h'.1)
/-- How an auction ends by a step. -/
def outF (x : HL) (s : ST) : OC := match bestF x.bs ((bidsF x.bs (s.ar, s.an) s.seen).filter (regB x)) with
  | none => zeroO
  | some m => ⟨m.1, m.2, usr x.bs m, amt x.bs m⟩
theorem OutL.eq {x : HL} {s : ST} {o : OC} (h : OutL x s o) (hnd : (x.bs.map (·.1)).Nodup) : o = outF x s := by
  obtain ⟨l, m, h1, h2, h3⟩ := h.ex
  rw [h1.eq hnd] at h2
  have h2 := h2.eq
  subst h2
  rw [h3, outF]
  cases bestF x.bs ((bidsF x.bs (s.ar, s.an) s.seen).filter (regB x)) <;> rfl
/-! ### Red steps -/
def HL.did (x : HL) (s : ST) : HL := { x with red := x.red ++ [s] }
def usD (x : HL) (s : ST) : HL := { x.did s with us := MP.put x.us (foldB s.user) true x.uc, uc := if (MP.get x.us (foldB s.user)).isSome then x.uc else x.uc + 1 }
def drawnF (x : HL) (u : ByteArray) : Int := (MP.get x.ds u).getD 0
def dsD (x : HL) (s : ST) : HL := { x.did s with ds := MP.put x.ds (foldB s.user) (drawnF x (foldB s.user) + s.amount) x.dc, dc := if (MP.get x.ds (foldB s.user)).isSome then x.dc else x.dc + 1 }
def csD (x : HL) (s : ST) : HL := { x.did s with cs := MP.put x.cs (s.ar, s.an) (outF x s) x.cc, cc := if (MP.get x.cs (s.ar, s.an)).isSome then x.cc else x.cc + 1 }
def gapT (x : HL) (s : ST) : Bool := !leB s.seen x.v || decide ((x.red.length : Int) < s.reds)
def mayEnd (x : HL) (s : ST) : Bool := !(MP.get x.cs (s.ar, s.an)).isSome && (has s.seen s.ar s.an && decide (((MP.get x.bs (s.ar, s.an)).getD zeroT').kind = 1))
def doE (x : HL) (s : ST) : Int := bif !goodT s || !redT s then 1 else bif gapT x s then 8 else 0
def doN (x : HL) (s : ST) : HL := bif decide (s.kind = 5) then usD x s else
  bif decide (s.kind = 6) then (bif decide (s.amount ≤ s.funds - drawnF x (foldB s.user)) then dsD x s else x.did s) else
  bif mayEnd x s then csD x s else x.did s
def doB (x : HL) (s : ST) : Bool := bif decide (s.kind = 5) then !(MP.get x.us (foldB s.user)).getD false else
  bif decide (s.kind = 6) then decide (s.amount ≤ s.funds - drawnF x (foldB s.user)) else mayEnd x s
end Go.Proofs

namespace Go.Proofs
open Go Go.V Go.Lib
set_option maxRecDepth 100000
set_option linter.unusedVariables false

/-! ### What holds of a house -/
theorem mem_put {K V : Type} [DecidableEq K] {e : K × V × Nat} : ∀ {ms : List (K × V × Nat)} {k : K} {v : V} {c : Nat}, e ∈ MP.put ms k v c → e ∈ ms ∨ (e.1 = k ∧ e.2.1 = v)
  | [], k, v, c, h => by simp [MP.put] at h; subst h; exact .inr ⟨rfl, rfl⟩
  | x :: ms, k, v, c, h => by
    unfold MP.put at h
    split at h
    · rename_i hk
      rcases List.mem_cons.1 h with h1 | h1
      · subst h1; exact .inr ⟨hk.symm, rfl⟩
      · exact .inl (by simp [h1])
    · rcases List.mem_cons.1 h with h1 | h1
      · exact .inl (by simp [h1])
      · rcases mem_put h1 with h2 | h2
        · exact .inl (by simp [h2])
        · exact .inr h2
theorem get_of_mem {K V : Type} [DecidableEq K] : ∀ {ms : List (K × V × Nat)} {e : K × V × Nat}, (ms.map (·.1)).Nodup → e ∈ ms → MP.get ms e.1 = some e.2.1
  | [], e, _, h => by simp at h
  | x :: ms, e, hn, h => by
    simp only [List.map_cons, List.nodup_cons] at hn
    rw [get_cons]
    rcases List.mem_cons.1 h with h1 | h1
    · subst h1; simp
    · have : e.1 ≠ x.1 := fun k => hn.1 (List.mem_map.2 ⟨e, h1, k⟩)
      rw [if_neg this]; exact get_of_mem hn.2 h1
theorem mem_of_get {K V : Type} [DecidableEq K] : ∀ {ms : List (K × V × Nat)} {k : K} {v : V}, MP.get ms k = some v → ∃ e, e ∈ ms ∧ e.1 = k ∧ e.2.1 = v
  | [], k, v, h => by simp [get_nil] at h
  | x :: ms, k, v, h => by
    rw [get_cons] at h
    split at h
    · rename_i hk
      exact ⟨x, by simp, hk.symm, by simpa using h⟩
    · obtain ⟨e, h1, h2, h3⟩ := mem_of_get h
      exact ⟨e, by simp [h1], h2, h3⟩
structure HI (x : HL) (N : Nat) : Prop where
  v : ∀ i, i < 7 → 0 ≤ x.v i ∧ x.v i ≤ 1099511627776
  b : MOK x.bs x.bc
  bk : (x.bs.map (·.1)).Nodup
  bl : x.bs.length ≤ N
  be : ∀ e, e ∈ x.bs → goodT e.2.1 = true ∧ redT e.2.1 = false ∧ e.1 = (e.2.1.rep, e.2.1.n) ∧ e.2.1.user.size ≤ 100000000 ∧ has x.v e.1.1 e.1.2 = true
  u : MOK x.us x.uc
  uk : (x.us.map (·.1)).Nodup
  ul : x.us.length ≤ N
  ue : ∀ e, e ∈ x.us → e.2.1 = true
  d : MOK x.ds x.dc
  dk : (x.ds.map (·.1)).Nodup
  dr : ∀ u, 0 ≤ drawnF x u ∧ drawnF x u ≤ 1125899906842624
  c : MOK x.cs x.cc
  ck : (x.cs.map (·.1)).Nodup
  rl : x.red.length ≤ N
theorem HI.new : HI HL.new 0 where
  v := fun i _ => ⟨Int.le_refl _, by show (0 : Int) ≤ _; omega⟩
  b := MOK.nil 0
  bk := by simp [HL.new]
  bl := Nat.le_refl _
  be := by simp [HL.new]
  u := MOK.nil 0
  uk := by simp [HL.new]
  ul := Nat.le_refl _
  ue := by simp [HL.new]
  d := MOK.nil 0
  dk := by simp [HL.new]
  dr := fun u => ⟨Int.le_refl _, by show (0 : Int) ≤ _; omega⟩
  c := MOK.nil 0
  ck := by simp [HL.new]
  rl := Nat.le_refl _
theorem HI.mono {x : HL} {N M : Nat} (h : HI x N) (hn : N ≤ M) : HI x M :=
  ⟨h.v, h.b, h.bk, Nat.le_trans h.bl hn, h.be, h.u, h.uk, Nat.le_trans h.ul hn, h.ue, h.d, h.dk, h.dr, h.c, h.ck, Nat.le_trans h.rl hn⟩
theorem HI.usr {x : HL} {N : Nat} (h : HI x N) (d : Int × Int) : (usr x.bs d).size ≤ 100000000 := by
  unfold Go.Proofs.usr
  cases hq : MP.get x.bs d with
  | none => show (0 : Nat) ≤ _; omega
  | some s =>
    obtain ⟨e, h1, h2, h3⟩ := mem_of_get hq
    have := (h.be e h1).2.2.2.1
    rw [h3] at this; exact this
theorem blueE_0 {x : HL} {s : ST} (h : blueE x s = 0) : goodT s = true ∧ redT s = false ∧ has x.v s.rep s.n = false ∧ s.n = x.v s.rep.toNat + 1 ∧ leB s.seen x.v = true ∧ s.reds ≤ x.red.length := by
  unfold blueE at h
  cases h1 : goodT s
  · simp [h1] at h
  cases h2 : redT s
  · cases h3 : has x.v s.rep s.n
    · cases h4 : decide (s.n = x.v s.rep.toNat + 1)
      · simp [h1, h2, h3, h4] at h
      · cases h5 : leB s.seen x.v
        · simp [h1, h2, h3, h4, h5] at h
        · cases h6 : decide ((x.red.length : Int) < s.reds)
          · exact ⟨rfl, rfl, rfl, of_decide_eq_true h4, rfl, by have := of_decide_eq_false h6; omega⟩
          · simp [h1, h2, h3, h4, h5, h6] at h
    · simp [h1, h2, h3] at h
  · simp [h1, h2] at h
theorem good_dot {s : ST} (h : goodT s = true) : (0 ≤ s.rep ∧ s.rep < 7) ∧ 1 ≤ s.n ∧ s.n ≤ 1099511627776 := by
  simp only [goodT, headT, isDot, isRep, Bool.and_eq_true, decide_eq_true_eq] at h; omega
theorem hasI {v : Nat → Int} {r n : Int} : has v r n = true ↔ (0 ≤ r ∧ r < 7) ∧ 1 ≤ n ∧ n ≤ v r.toNat := by
  simp [has, isRep]
theorem has_up {v : Nat → Int} {s : ST} (hd : (0 ≤ s.rep ∧ s.rep < 7) ∧ 1 ≤ s.n ∧ s.n ≤ 1099511627776) (hn : s.n = v s.rep.toNat + 1) (r n : Int) : has (upv v s.rep.toNat (v s.rep.toNat + 1)) r n = (has v r n || decide (r = s.rep ∧ n = s.n)) := by
  have h1 : 0 ≤ s.rep := hd.1.1
  have h2 : s.rep < 7 := hd.1.2
  have h3 : 1 ≤ s.n := hd.2.1
  have hiff : has (upv v s.rep.toNat (v s.rep.toNat + 1)) r n = true ↔ (has v r n || decide (r = s.rep ∧ n = s.n)) = true := by
    rw [Bool.or_eq_true, hasI, hasI, decide_eq_true_eq]
    have hu : upv v s.rep.toNat (v s.rep.toNat + 1) r.toNat = if r.toNat = s.rep.toNat then v s.rep.toNat + 1 else v r.toNat := rfl
    rw [hu]
    by_cases hr : r = s.rep
    · rw [hr, if_pos rfl]; omega
    · by_cases h0 : 0 ≤ r
      · rw [if_neg (by omega)]; omega
      · omega
  exact Bool.eq_iff_iff.2 hiff
theorem blueN_0 {x : HL} {s : ST} (hb : blueE x s = 0) : blueN x s = { x with v := upv x.v s.rep.toNat (x.v s.rep.toNat + 1), bs := MP.put x.bs (s.rep, s.n) s x.bc, bc := if (MP.get x.bs (s.rep, s.n)).isSome then x.bc else x.bc + 1 } := by rw [blueN, hb]; rfl
theorem blueN_1 {x : HL} {s : ST} (hb : blueE x s ≠ 0) : blueN x s = x := by rw [blueN, show decide (blueE x s = 0) = false by simpa using hb]; rfl
theorem HI.fresh {x : HL} {N : Nat} (h : HI x N) {r n : Int} (hn : has x.v r n = false) : MP.get x.bs (r, n) = none := by
  cases hq : MP.get x.bs (r, n) with
  | none => rfl
  | some s =>
    obtain ⟨e, h1, h2, h3⟩ := mem_of_get hq
    have := (h.be e h1).2.2.2.2
    rw [h2, hn] at this; cases this
theorem HI.blue {x : HL} {N : Nat} (h : HI x N) {s : ST} (hz : s.user.size ≤ 100000000) : HI (blueN x s) (N + 1) := by
  by_cases hb : blueE x s = 0
  · obtain ⟨g1, g2, g3, g4, g5, g6⟩ := blueE_0 hb
    have hd := good_dot g1
    rw [blueN_0 hb]
    have hf := h.fresh g3
    exact {
      v := fun i hi => by
        show 0 ≤ upv x.v s.rep.toNat (x.v s.rep.toNat + 1) i ∧ upv x.v s.rep.toNat (x.v s.rep.toNat + 1) i ≤ _
        unfold upv
        split
        · omega
        · exact h.v i hi
      b := h.b.put _ _
      bk := nodup_put h.bk _ _ _
      bl := by show (MP.put x.bs (s.rep, s.n) s x.bc).length ≤ _; rw [len_put]; have := h.bl; split <;> omega
      be := fun e he => by
        show _ ∧ _ ∧ _ ∧ _ ∧ has (upv x.v s.rep.toNat (x.v s.rep.toNat + 1)) e.1.1 e.1.2 = true
        rw [has_up hd g4]
        rcases mem_put he with k | ⟨k1, k2⟩
        · obtain ⟨a, b, c, d, f⟩ := h.be e k
          exact ⟨a, b, c, d, by rw [f]; rfl⟩
        · rw [k1, k2]
          exact ⟨g1, g2, rfl, hz, by simp⟩
      u := h.u
      uk := h.uk
      ul := Nat.le_succ_of_le h.ul
      ue := h.ue
      d := h.d
      dk := h.dk
      dr := h.dr
      c := h.c
      ck := h.ck
      rl := Nat.le_succ_of_le h.rl }
  · rw [blueN_1 hb]
    exact h.mono (Nat.le_succ _)
theorem HI.did {x : HL} {N : Nat} (h : HI x N) (s : ST) : HI (x.did s) (N + 1) :=
  ⟨h.v, h.b, h.bk, Nat.le_succ_of_le h.bl, h.be, h.u, h.uk, Nat.le_succ_of_le h.ul, h.ue, h.d, h.dk, h.dr, h.c, h.ck, by show (x.red ++ [s]).length ≤ _; have := h.rl; simp; exact this⟩
theorem doE_0 {x : HL} {s : ST} (h : doE x s = 0) : goodT s = true ∧ redT s = true ∧ gapT x s = false := by
  unfold doE at h
  cases h1 : goodT s <;> cases h2 : redT s <;> cases h3 : gapT x s <;> simp [h1, h2, h3] at h ⊢
theorem good_six {s : ST} (h : goodT s = true) (hk : s.kind = 6) : 1 ≤ s.amount ∧ s.amount ≤ 1000000000 ∧ 0 ≤ s.funds ∧ s.funds ≤ 1125899906842624 := by
  simp [goodT, partT, numB, hk, amntK] at h
  obtain ⟨_, _, _, _, _, _, h1, h2⟩ := h
  omega
theorem HI.red {x : HL} {N : Nat} (h : HI x N) {s : ST} (he : doE x s = 0) : HI (doN x s) (N + 1) := by
  have hg := (doE_0 he).1
  have hd := h.did s
  unfold doN
  by_cases k5 : s.kind = 5
  · rw [show decide (s.kind = 5) = true from decide_eq_true k5]
    exact ⟨hd.v, hd.b, hd.bk, hd.bl, hd.be, h.u.put _ _, nodup_put h.uk _ _ _, by show (MP.put x.us (foldB s.user) true x.uc).length ≤ _; rw [len_put]; have := h.ul; split <;> omega, fun e he => by
      rcases mem_put he with k | ⟨_, k⟩
      · exact h.ue e k
      · exact k, hd.d, hd.dk, hd.dr, hd.c, hd.ck, hd.rl⟩
  rw [show decide (s.kind = 5) = false from decide_eq_false k5]
  by_cases k6 : s.kind = 6
  · rw [show decide (s.kind = 6) = true from decide_eq_true k6]
    have hs := good_six hg k6
    by_cases k7 : s.amount ≤ s.funds - drawnF x (foldB s.user)
    · simp only [cond_false, cond_true, decide_eq_true k7]
      exact ⟨hd.v, hd.b, hd.bk, hd.bl, hd.be, hd.u, hd.uk, hd.ul, hd.ue, h.d.put _ _, nodup_put h.dk _ _ _, fun u => by
        show 0 ≤ (MP.get (MP.put x.ds (foldB s.user) (drawnF x (foldB s.user) + s.amount) x.dc) u).getD 0 ∧ _ ≤ _
        have h1 := h.dr u
        have h2 := h.dr (foldB s.user)
        have heq : drawnF (dsD x s) u = if u = foldB s.user then drawnF x (foldB s.user) + s.amount else drawnF x u := by
          show (MP.get (MP.put x.ds (foldB s.user) (drawnF x (foldB s.user) + s.amount) x.dc) u).getD 0 = _
          rw [get_put]
          split <;> rfl
        show 0 ≤ drawnF (dsD x s) u ∧ drawnF (dsD x s) u ≤ _
        rw [heq]
        split <;> omega, hd.c, hd.ck, hd.rl⟩
    · simp only [cond_false, cond_true, decide_eq_false k7]
      exact hd
  rw [show decide (s.kind = 6) = false from decide_eq_false k6]
  simp only [cond_false]
  cases mayEnd x s
  · exact hd
  · exact ⟨hd.v, hd.b, hd.bk, hd.bl, hd.be, hd.u, hd.uk, hd.ul, hd.ue, hd.d, hd.dk, hd.dr, h.c.put _ _, nodup_put h.ck _ _ _, hd.rl⟩
end Go.Proofs

namespace Go.Proofs
open Go Go.V Go.Lib
set_option maxRecDepth 100000
set_option linter.unusedVariables false

/-! ### Red steps, walked -/
abbrev hoG (x : HL) (rx : List Value) (ro rc : Nat) : List SO := [.cells (vcells x.v ++ [.mp 1, .sl 7 ro x.red.length rc, .mp 2, .mp 3, .mp 4]) T_auct_House,
  .map (ents encD encST x.bs) x.bc, .map (ents encT encB x.us) x.uc, .map (ents encT encN x.ds) x.dc, .map (ents encD encO x.cs) x.cc, .gone]
def DoPost (h : Nat → Option Obj) (x : HL) (rx : List Value) (ro rc : Nat) (s : ST) (r : SV) (H : List SO) : Prop :=
  (doE x s ≠ 0 ∧ r = .tup [bv false, iv (doE x s)] ∧ H = hoH x rx ro rc ++ [.heap h]) ∨
  (doE x s = 0 ∧ r = .tup [bv (doB x s), iv 0] ∧ ∃ rx' ro' rc', RowG stcl 19 rx' ro' rc' (doN x s).red ∧ H = hoG (doN x s) rx' ro' rc' ++ [.heap h, .arr rx' T_auct_Step])
theorem s_Do (h : Nat → Option Obj) (hu : Uni h) (hc : CaseH h) (x : HL) (N : Nat) (hx : HI x N) (hN : N ≤ 1000000) (rx : List Value) (ro rc : Nat) (hr : RowG stcl 19 rx ro rc x.red) (s : ST) (h1 : s.name.size ≤ 4611686018427387904) (h2 : s.user.size ≤ 100000000) :
    Ctr Tryd.prog F_auct_House_Do [.ptr 0 0, .agg (stcells s)] (hoH x rx ro rc ++ [.heap h]) (DoPost h x rx ro rc s) := by
  have fin : ∀ (e : Int) (l : List SO), e ≠ 0 → doE x s = e → VRet 7 (.tup [bv false, iv e]) (hoH x rx ro rc ++ .heap h :: l) (DoPost h x rx ro rc s) := by
    intro e l he hb
    exact VRet.mk [0, 1, 2, 3, 4, 5, 6] (.tup [bv false, iv e]) (hoH x rx ro rc ++ [.heap h]) ⟨rfl, rfl, rfl⟩ (.inl ⟨by rw [hb]; exact he, by rw [hb], rfl⟩)
  have fin2 : ∀ (b : Bool) (x' : HL) (rx' : List Value) (ro' rc' n : Nat) (A B : SO) (l : List SO), doE x s = 0 → doN x s = x' → doB x s = b → x'.red.length = n → RowG stcl 19 rx' ro' rc' x'.red →
      VRet 7 (.tup [bv b, iv 0]) ([.cells (vcells x'.v ++ [.mp 1, .sl 9 ro' n rc', .mp 2, .mp 3, .mp 4]) T_auct_House, .map (ents encD encST x'.bs) x'.bc, .map (ents encT encB x'.us) x'.uc, .map (ents encT encN x'.ds) x'.dc, .map (ents encD encO x'.cs) x'.cc, .gone, .heap h, A, B, .arr rx' T_auct_Step] ++ l) (DoPost h x rx ro rc s) := by
    rintro b x' rx' ro' rc' n A B l he rfl rfl rfl hr'
    exact VRet.mk [0, 1, 2, 3, 4, 5, 6, 9] (.tup [bv (doB x s), iv 0]) (hoG (doN x s) rx' ro' rc' ++ [.heap h, .arr rx' T_auct_Step]) ⟨rfl, rfl, rfl⟩ (.inr ⟨he, rfl, rx', ro', rc', hr', rfl⟩)
  refine i_auct_House_Do.spec follows ?_
  refine VCall.mk [6] (s_Good h hu s h1 (by omega)) ⟨rfl, rfl, rfl⟩ ?_
  rintro _ _ ⟨rfl, rfl⟩
  refine And.intro (fun k1 => ?_) (fun k1 => fin 1 _ (by decide) (by simp at k1; simp [doE, k1]))
  have k1 : goodT s = true := by simpa using k1
  refine VCall.mk [] (s_Red s) ⟨rfl, rfl, rfl⟩ ?_
  rintro _ _ ⟨rfl, rfl⟩
  refine And.intro (fun k2 => fin 1 _ (by decide) (by simp at k2; simp [doE, k2])) (fun k2 => ?_)
  have k2 : redT s = true := by simpa using k2
  refine VCall.mk [] (s_vec_Le s.seen x.v) ⟨rfl, rfl, rfl⟩ ?_
  rintro _ _ ⟨rfl, rfl⟩
  refine And.intro (fun k3 => ?_) (fun k3 => fin 8 _ (by decide) (by have k3 : leB s.seen x.v = false := by simpa using k3
                                                                     rw [doE, gapT, k1, k2, k3]; rfl))
  have k3 : leB s.seen x.v = true := by simpa using k3
  refine And.intro (fun k4 => fin 8 _ (by decide) (by rw [doE, gapT, k1, k2, k3, show decide ((x.red.length : Int) < s.reds) = true from k4]; rfl)) (fun k4 => ?_)
  have he : doE x s = 0 := by rw [doE, gapT, k1, k2, k3, show decide ((x.red.length : Int) < s.reds) = false from k4]; rfl
  have hnb : (x.red.length + 1) * 168 ≤ 1099511627776 := by have := hx.rl; omega
  refine And.intro rfl (And.intro rfl ?_)
  refine And.intro ⟨⟨hr.1, hr.2.1, rfl⟩, ⟨rfl, rfl⟩, hnb⟩ ?_
  intro xs' o' c' hz
  have hr' : RowG stcl 19 xs' o' c' (x.did s).red := RowG.snoc hr rfl hz.1 hz.2.1 hz.2.2
  have hlen : (x.did s).red.length = x.red.length + 1 := by show (x.red ++ [s]).length = _; simp
  refine VCall.mk [6] (s_name_Fold h hc s.user h2) ⟨rfl, rfl, rfl⟩ ?_
  rintro _ _ ⟨rfl, rfl⟩
  refine And.intro (fun k5 => ?_) (fun k5 => ?_)
  · have k5 : s.kind = 5 := of_decide_eq_true k5
    refine Exists.intro (bv ((MP.get x.us (foldB s.user)).getD false)) (Exists.intro _ (Exists.intro _ (And.intro (lookU x.us (foldB s.user)) (And.intro rfl ?_))))
    refine Exists.intro _ (Exists.intro _ (And.intro (update_is (encv := encB) kU x.us x.uc (foldB s.user) true) ?_))
    exact fin2 (!(MP.get x.us (foldB s.user)).getD false) (usD x s) _ _ _ _ _ _ _ he (by simp [doN, k5]) (by simp [doB, k5]) hlen hr'
  have k5 : ¬ s.kind = 5 := of_decide_eq_false k5
  refine And.intro (fun k6 => ?_) (fun k6 => ?_)
  · have k6 : s.kind = 6 := of_decide_eq_true k6
    have hs := good_six k1 k6
    have hd := hx.dr (foldB s.user)
    have hw : IntKind.i64.wrap (s.funds - (MP.get x.ds (foldB s.user)).getD 0) = s.funds - drawnF x (foldB s.user) := wrap64 (by unfold drawnF at hd; omega)
    have hw2 : IntKind.i64.wrap ((MP.get x.ds (foldB s.user)).getD 0 + s.amount) = drawnF x (foldB s.user) + s.amount := wrap64 (by unfold drawnF at hd; omega)
    refine Exists.intro (iv ((MP.get x.ds (foldB s.user)).getD 0)) (Exists.intro _ (Exists.intro _ (And.intro (lookD x.ds (foldB s.user)) (And.intro rfl ?_))))
    refine Exists.intro _ (And.intro hw ?_)
    refine And.intro (fun k7 => ?_) (fun k7 => ?_)
    · have k7 : s.funds - drawnF x (foldB s.user) < s.amount := of_decide_eq_true k7
      have k8 : ¬ s.amount ≤ s.funds - drawnF x (foldB s.user) := by omega
      exact fin2 false (x.did s) _ _ _ _ _ _ _ he (by simp [doN, k5, k6, k8]) (by simp [doB, k5, k6, k8]) hlen hr'
    · have k7 : ¬ s.funds - drawnF x (foldB s.user) < s.amount := of_decide_eq_false k7
      have k8 : s.amount ≤ s.funds - drawnF x (foldB s.user) := by omega
      refine Exists.intro (iv ((MP.get x.ds (foldB s.user)).getD 0)) (Exists.intro _ (Exists.intro _ (And.intro (lookD x.ds (foldB s.user)) (And.intro rfl ?_))))
      refine Exists.intro _ (And.intro hw2 ?_)
      refine Exists.intro _ (Exists.intro _ (And.intro (update_is (encv := encN) kD x.ds x.dc (foldB s.user) (drawnF x (foldB s.user) + s.amount)) ?_))
      exact fin2 true (dsD x s) _ _ _ _ _ _ _ he (by simp [doN, k5, k6, k8]) (by simp [doB, k5, k6, k8]) hlen hr'
  have k6 : ¬ s.kind = 6 := of_decide_eq_false k6
  refine Exists.intro (.agg (occells ((MP.get x.cs (s.ar, s.an)).getD zeroO))) (Exists.intro _ (Exists.intro _ (And.intro (lookC x.cs (s.ar, s.an)) (And.intro rfl ?_))))
  refine And.intro rfl (And.intro rfl (And.intro rfl ?_))
  refine And.intro (Exists.intro (.agg (occells ((MP.get x.cs (s.ar, s.an)).getD zeroO))) (Exists.intro _ (Exists.intro _ (And.intro (lookC x.cs (s.ar, s.an)) (And.intro rfl rfl))))) ?_
  have hdN : ∀ b, mayEnd x s = b → doN x s = bif b then csD x s else x.did s := fun b hb => by simp [doN, k5, k6, hb]
  have hdB : ∀ b, mayEnd x s = b → doB x s = b := fun b hb => by simp [doB, k5, k6, hb]
  have shut : ∀ (A B : SO) (l : List SO), mayEnd x s = false → VRet 7 (.tup [bv false, iv 0]) ([.cells (vcells x.v ++ [.mp 1, .sl 9 o' (x.red.length + 1) c', .mp 2, .mp 3, .mp 4]) T_auct_House, .map (ents encD encST x.bs) x.bc, .map (ents encT encB x.us) x.uc, .map (ents encT encN x.ds) x.dc, .map (ents encD encO x.cs) x.cc, .gone, .heap h, A, B, .arr xs' T_auct_Step] ++ l) (DoPost h x rx ro rc s) :=
    fun A B l hm => fin2 false (x.did s) xs' o' c' _ A B l he (by rw [hdN _ hm]; rfl) (hdB _ hm) hlen hr'
  refine And.intro (fun k7 => ?_) (fun k7 => ?_)
  · refine VCall.mk [] (s_vec_Has s.seen s.ar s.an) ⟨rfl, rfl, rfl⟩ ?_
    rintro _ _ ⟨rfl, rfl⟩
    refine And.intro (fun k8 => ?_) (fun k8 => ?_)
    · have k8 : has s.seen s.ar s.an = true := by simpa using k8
      refine Exists.intro (.agg (stcells ((MP.get x.bs (s.ar, s.an)).getD zeroT'))) (Exists.intro _ (Exists.intro _ (And.intro (lookB x.bs (s.ar, s.an)) (And.intro rfl ?_))))
      refine And.intro (fun k9 => ?_) (fun k9 => ?_)
      · have k9 : ¬ ((MP.get x.bs (s.ar, s.an)).getD zeroT').kind = 1 := by simpa using k9
        exact shut _ _ _ (by simp [mayEnd, k9])
      · have k9 : ((MP.get x.bs (s.ar, s.an)).getD zeroT').kind = 1 := by simpa using k9
        have hm : mayEnd x s = true := by simp [mayEnd, k7, k8, k9]
        have hE := s_ends h hc (x.did s) hx.usr hx.b hx.bk (by have := hx.bl; show x.bs.length ≤ _; omega) xs' o' c' s
        simp only [hoH, hlen] at hE
        refine VCall.mk [0, 1, 2, 3, 4, 9, 6] hE ⟨rfl, rfl, rfl⟩ ?_
        rintro _ _ ⟨o, hO, rfl, rfl⟩
        have hO := hO.eq hx.bk
        subst hO
        refine And.intro rfl (And.intro rfl (And.intro rfl ?_))
        refine Exists.intro _ (Exists.intro _ (And.intro (update_is (encv := encO) kC x.cs x.cc (s.ar, s.an) (outF x s)) ?_))
        exact fin2 true (csD x s) xs' o' c' _ _ _ _ he (by rw [hdN _ hm]; rfl) (hdB _ hm) hlen hr'
    · have k8 : has s.seen s.ar s.an = false := by simpa using k8
      exact shut _ _ _ (by simp [mayEnd, k8])
  · exact shut _ _ _ (by simp [mayEnd, k7])
end Go.Proofs

namespace Go.Proofs
open Go Go.V Go.Lib
set_option maxRecDepth 100000
set_option linter.unusedVariables false

/-! ### What a house tells -/
def openF (x : HL) (a : Int × Int) : Bool := decide (((MP.get x.bs a).getD zeroT').kind = 1) && !(MP.get x.cs a).isSome
theorem s_Open (x : HL) (rx : List Value) (ro rc : Nat) (a : Int × Int) : Ctr Tryd.prog F_auct_House_Open [.ptr 0 0, .agg (dcells a.1 a.2)] (hoH x rx ro rc) (fun r H => r = bv (openF x a) ∧ H = hoH x rx ro rc) := by
  refine i_auct_House_Open.spec follows ?_
  refine Exists.intro (.agg (occells ((MP.get x.cs (a.1, a.2)).getD zeroO))) (Exists.intro _ (Exists.intro _ (And.intro (lookC x.cs (a.1, a.2)) (And.intro rfl ?_))))
  refine And.intro rfl (And.intro rfl (And.intro rfl ?_))
  refine And.intro (Exists.intro (.agg (occells ((MP.get x.cs (a.1, a.2)).getD zeroO))) (Exists.intro _ (Exists.intro _ (And.intro (lookC x.cs (a.1, a.2)) (And.intro rfl rfl))))) ?_
  refine Exists.intro (.agg (stcells ((MP.get x.bs (a.1, a.2)).getD zeroT'))) (Exists.intro _ (Exists.intro _ (And.intro (lookB x.bs (a.1, a.2)) (And.intro rfl ?_))))
  have fin : ∀ (b : Bool) (l : List SO), b = openF x a → VRet 6 (bv b) (hoH x rx ro rc ++ l) (fun r H => r = bv (openF x a) ∧ H = hoH x rx ro rc) := by
    rintro b l rfl
    exact VRet.mk [0, 1, 2, 3, 4, 5] _ (hoH x rx ro rc) ⟨rfl, rfl, rfl⟩ ⟨rfl, rfl⟩
  refine And.intro (fun k => ?_) (fun k => ?_)
  · exact fin _ _ (by show _ = (decide (((MP.get x.bs (a.1, a.2)).getD zeroT').kind = 1) && !(MP.get x.cs (a.1, a.2)).isSome); rw [k]; rfl)
  · exact fin _ _ (by show _ = (decide (((MP.get x.bs (a.1, a.2)).getD zeroT').kind = 1) && !(MP.get x.cs (a.1, a.2)).isSome); rw [k]; rfl)

theorem s_Winner (x : HL) (rx : List Value) (ro rc : Nat) (a : Int × Int) : Ctr Tryd.prog F_auct_House_Winner [.ptr 0 0, .agg (dcells a.1 a.2)] (hoH x rx ro rc)
    (fun r H => r = .tup [.agg (dcells ((MP.get x.cs a).getD zeroO).br ((MP.get x.cs a).getD zeroO).bn), .raw (.string ((MP.get x.cs a).getD zeroO).user), iv ((MP.get x.cs a).getD zeroO).amount, bv (MP.get x.cs a).isSome] ∧ H = hoH x rx ro rc) := by
  refine i_auct_House_Winner.spec follows ?_
  refine Exists.intro (.agg (occells ((MP.get x.cs (a.1, a.2)).getD zeroO))) (Exists.intro _ (Exists.intro _ (And.intro (lookC x.cs (a.1, a.2)) (And.intro rfl ?_))))
  refine And.intro rfl (And.intro rfl (And.intro rfl ?_))
  refine And.intro (Exists.intro (.agg (occells ((MP.get x.cs (a.1, a.2)).getD zeroO))) (Exists.intro _ (Exists.intro _ (And.intro (lookC x.cs (a.1, a.2)) (And.intro rfl rfl))))) ?_
  refine And.intro rfl (And.intro rfl ?_)
  exact VRet.mk [0, 1, 2, 3, 4, 5] (.tup [.agg (dcells ((MP.get x.cs (a.1, a.2)).getD zeroO).br ((MP.get x.cs (a.1, a.2)).getD zeroO).bn), .raw (.string ((MP.get x.cs (a.1, a.2)).getD zeroO).user), iv ((MP.get x.cs (a.1, a.2)).getD zeroO).amount, bv (MP.get x.cs (a.1, a.2)).isSome]) (hoH x rx ro rc) ⟨rfl, rfl, rfl⟩ ⟨rfl, rfl⟩
theorem s_Reds (x : HL) (rx : List Value) (ro rc : Nat) : Ctr Tryd.prog F_auct_House_Reds [.ptr 0 0] (hoH x rx ro rc) (fun r H => r = iv x.red.length ∧ H = hoH x rx ro rc) := by
  refine i_auct_House_Reds.spec follows ?_
  exact VRet.mk [0, 1, 2, 3, 4, 5] (iv x.red.length) (hoH x rx ro rc) ⟨rfl, rfl, rfl⟩ ⟨rfl, rfl⟩
theorem s_Have (x : HL) (rx : List Value) (ro rc : Nat) : Ctr Tryd.prog F_auct_House_Have [.ptr 0 0] (hoH x rx ro rc) (fun r H => r = .agg (vcells x.v) ∧ H = hoH x rx ro rc) := by
  refine i_auct_House_Have.spec follows ?_
  exact VRet.mk [0, 1, 2, 3, 4, 5] (.agg (vcells x.v)) (hoH x rx ro rc) ⟨rfl, rfl, rfl⟩ ⟨rfl, rfl⟩
theorem s_Bids (x : HL) (hok : MOK x.bs x.bc) (hnd : (x.bs.map (·.1)).Nodup) (hb : x.bs.length ≤ 1000000) (rx : List Value) (ro rc : Nat) (a : Int × Int) :
    Ctr Tryd.prog F_auct_House_Bids [.ptr 0 0, .agg (dcells a.1 a.2)] (hoH x rx ro rc)
      (fun r H => ∃ xs o c, r = .sl 6 o (bidsF x.bs a x.v).length c ∧ H = hoH x rx ro rc ++ [.arr xs T_api_Dot] ∧ RowG dcl 2 xs o c (bidsF x.bs a x.v) ∧ (bidsF x.bs a x.v).length ≤ x.bs.length) := by
  refine i_auct_House_Bids.spec follows ?_
  refine VCall.mk [0, 1, 2, 3, 4, 5] (s_bids x hok hnd hb rx ro rc (a.1, a.2) x.v) ⟨rfl, rfl, rfl⟩ ?_
  rintro _ _ ⟨l, xs, o, c, rfl, rfl, hr, hL, hll⟩
  have hl := hL.eq hnd
  subst hl
  exact VRet.mk [0, 1, 2, 3, 4, 5, 7] (.sl 6 o (bidsF x.bs a x.v).length c) (hoH x rx ro rc ++ [.arr xs T_api_Dot]) ⟨rfl, rfl, rfl⟩ ⟨xs, o, c, rfl, rfl, hr, hll⟩
theorem s_Best (x : HL) (hok : MOK x.bs x.bc) (hnd : (x.bs.map (·.1)).Nodup) (hb : x.bs.length ≤ 1000000) (rx : List Value) (ro rc : Nat) (a : Int × Int) :
    Ctr Tryd.prog F_auct_House_Best [.ptr 0 0, .agg (dcells a.1 a.2)] (hoH x rx ro rc) (fun r H => r = bestV (bestF x.bs (bidsF x.bs a x.v)) ∧ H = hoH x rx ro rc) := by
  refine i_auct_House_Best.spec follows ?_
  refine VCall.mk [0, 1, 2, 3, 4, 5] (s_Bids x hok hnd hb rx ro rc (a.1, a.2)) ⟨rfl, rfl, rfl⟩ ?_
  rintro _ _ ⟨xs, o, c, rfl, rfl, hr, hll⟩
  refine VCall.mk [0, 1, 2, 3, 4, 5, 8] (s_best x rx ro rc _ xs o c hr (by omega)) ⟨rfl, rfl, rfl⟩ ?_
  rintro _ _ ⟨m, hm, rfl, rfl⟩
  have hm := hm.eq
  subst hm
  cases hq : bestF x.bs (bidsF x.bs (a.1, a.2) x.v) with
  | none => exact VRet.mk [0, 1, 2, 3, 4, 5] (.tup [.agg (dcells 0 0), bv false]) (hoH x rx ro rc) ⟨rfl, rfl, rfl⟩ ⟨rfl, rfl⟩
  | some m => exact VRet.mk [0, 1, 2, 3, 4, 5] (.tup [.agg (dcells m.1 m.2), bv true]) (hoH x rx ro rc) ⟨rfl, rfl, rfl⟩ ⟨rfl, rfl⟩
end Go.Proofs

namespace Go.Proofs
open Go Go.V Go.Lib
set_option maxRecDepth 100000
set_option linter.unusedVariables false

theorem strB {a b : ByteArray} : (a.toList == b.toList) = decide (a = b) := by
  rw [ByteArray.toList_eq, ByteArray.toList_eq]
  apply Bool.eq_iff_iff.2
  rw [beq_iff_eq, decide_eq_true_eq]
  constructor
  · intro h
    cases a with | mk a => cases b with | mk b =>
      congr 1
      exact Array.toList_inj.1 h
  · intro h; rw [h]
/-! ### What was deposited -/
def depE (f : ByteArray) (e : (Int × Int) × ST × Nat) : Bool := decide (e.2.1.kind = 4) && decide (foldB e.2.1.user = f)
def depS (f : ByteArray) : MB → Int
  | [] => 0
  | e :: l => (bif depE f e then e.2.1.amount else 0) + depS f l
theorem depS_app (f : ByteArray) : ∀ (l m : MB), depS f (l ++ m) = depS f l + depS f m
  | [], m => by simp [depS]
  | e :: l, m => by simp only [List.cons_append, depS, depS_app f l m]; omega
theorem depS_perm (f : ByteArray) {l m : MB} (h : l.Perm m) : depS f l = depS f m := by
  induction h with
  | nil => rfl
  | cons x h ih => simp only [depS, ih]
  | swap x y l => simp only [depS]; omega
  | trans h1 h2 i1 i2 => rw [i1, i2]
theorem depS_nn (f : ByteArray) : ∀ {l : MB}, (∀ e, e ∈ l → goodT e.2.1 = true) → 0 ≤ depS f l
  | [], _ => Int.le_refl _
  | e :: l, h => by
    have h1 := depS_nn f (l := l) (fun e he => h e (by simp [he]))
    simp only [depS]
    cases hq : depE f e
    · simpa using h1
    · have hk : e.2.1.kind = 4 := by simp [depE] at hq; exact hq.1
      have hg := h e (by simp)
      have : 1 ≤ e.2.1.amount := by
        simp [goodT, partT, numB, hk, amntK] at hg
        omega
      simp only [cond_true]; omega
def depF (x : HL) (u : ByteArray) : Int := min (depS (foldB u) x.bs) 1125899906842624
theorem good_four {s : ST} (h : goodT s = true) (hk : s.kind = 4) : 1 ≤ s.amount ∧ s.amount ≤ 1000000000 := by
  simp [goodT, partT, numB, hk, amntK] at h
  omega
structure DPX where
  pre : MB
  seen : List Nat
theorem s_Deposited (h : Nat → Option Obj) (hc : CaseH h) (x : HL) (N : Nat) (hx : HI x N) (rx : List Value) (ro rc : Nat) (u : ByteArray) (hu : u.size ≤ 100000000) :
    Ctr Tryd.prog F_auct_House_Deposited [.ptr 0 0, .raw (.string u)] (hoH x rx ro rc ++ [.heap h]) (fun r H => r = iv (depF x u) ∧ H = hoH x rx ro rc ++ [.heap h]) := by
  refine i_auct_House_Deposited.spec follows ?_
  refine VLoop.mk DPX (fun y => [(1, .raw (.string u)), (5, iv (min (depS (foldB u) y.pre) 1125899906842624)), (12, .ptr 7 0)]) (fun y => hoH x rx ro rc ++ [.heap h, .iter (some 1) x.bc y.seen x.bc]) (fun y => Been x.bs y.pre y.seen) (fun y => x.bs.length - y.pre.length) ⟨[], []⟩ [0, 1, 2, 3, 4, 5, 6, 7]
    ⟨Been.nil _, rfl, rfl, rfl⟩ ?_
  rintro ⟨pre, seen⟩ h1 g
  simp only at h1
  refine And.intro ⟨fun e he => ?_, Nat.le_refl _⟩ (And.intro (fun hall => ?_) (fun e he hns => ?_))
  · obtain ⟨y, hy, rfl⟩ := List.mem_map.1 he
    exact hx.b.1 y hy
  · have hsub : ∀ y, y ∈ x.bs → y ∈ pre := fun y hy => h1.all hx.b.2 hy (hall _ (List.mem_map.2 ⟨y, hy, rfl⟩))
    have hpn : pre.Nodup := by have := h1.nd; rw [h1.eq] at this; exact nodup_of_map _ this
    have hp : pre.Perm x.bs := (List.perm_ext_iff_of_nodup hpn (nodup_of_map _ hx.bk)).2 fun a => ⟨h1.sub a, hsub a⟩
    have hd : depS (foldB u) pre = depS (foldB u) x.bs := depS_perm _ hp
    exact VRet.mk [0, 1, 2, 3, 4, 5, 6] (iv (min (depS (foldB u) pre) 1125899906842624)) (hoH x rx ro rc ++ [.heap h]) ⟨rfl, rfl, rfl⟩ ⟨by rw [hd]; rfl, rfl⟩
  · obtain ⟨y, hy, rfl⟩ := List.mem_map.1 he
    have hns : y.2.2 ∉ seen := hns
    have hlen : x.bs.length - (pre ++ [y]).length < x.bs.length - pre.length := by classical exact h1.len hy hns
    have hmore := h1.more hy hns
    have hbe := hx.be y hy
    have hnn : 0 ≤ depS (foldB u) pre := depS_nn _ fun e he => (hx.be e (h1.sub e he)).1
    refine Exists.intro y.2.2 (Exists.intro (ent encD encST y) (And.intro (last_snoc _ _) (And.intro (find_ents hx.b.2 hy) (And.intro rfl ?_))))
    have skip : depE (foldB u) y = false → depS (foldB u) (pre ++ [y]) = depS (foldB u) pre := fun hq => by rw [depS_app]; simp [depS, hq]
    refine And.intro (fun k1 => ?_) (fun k1 => ?_)
    · have k1 : y.2.1.kind = 4 := of_decide_eq_true k1
      refine VCall.mk [6] (s_name_Fold h hc y.2.1.user hbe.2.2.2.1) ⟨rfl, rfl, rfl⟩ ?_
      rintro _ _ ⟨rfl, rfl⟩
      refine VCall.mk [6] (s_name_Fold h hc u hu) ⟨rfl, rfl, rfl⟩ ?_
      rintro _ _ ⟨rfl, rfl⟩
      have hs4 := good_four hbe.1 k1
      have hnn2 : min (depS (foldB u) pre) 1125899906842624 ≤ 1125899906842624 := Int.min_le_right _ _
      have hnn3 : 0 ≤ min (depS (foldB u) pre) 1125899906842624 := by omega
      refine And.intro (fun k2 => ?_) (fun k2 => ?_)
      · rw [strB] at k2
        have k2 : foldB y.2.1.user = foldB u := of_decide_eq_true k2
        have hq : depE (foldB u) y = true := by simp [depE, k1, k2]
        have hS : depS (foldB u) (pre ++ [y]) = depS (foldB u) pre + y.2.1.amount := by rw [depS_app]; simp [depS, hq]
        have hw : IntKind.i64.wrap (min (depS (foldB u) pre) 1125899906842624 + y.2.1.amount) = min (depS (foldB u) pre) 1125899906842624 + y.2.1.amount := wrap64 (by omega)
        refine Exists.intro _ (And.intro hw ?_)
        have e : (if 1125899906842624 < min (depS (foldB u) pre) 1125899906842624 + y.2.1.amount then 1125899906842624 else min (depS (foldB u) pre) 1125899906842624 + y.2.1.amount) = min (depS (foldB u) (pre ++ [y])) 1125899906842624 := by
          rw [hS]
          split <;> omega
        exact Exists.intro ⟨pre ++ [y], seen ++ [y.2.2]⟩ (Exists.intro [0, 1, 2, 3, 4, 5, 6, 7] (And.intro ⟨hmore, hlen⟩ ⟨by simp only [← e]; rfl, rfl, rfl⟩))
      · rw [strB] at k2
        have k2 : ¬ foldB y.2.1.user = foldB u := of_decide_eq_false k2
        exact Exists.intro ⟨pre ++ [y], seen ++ [y.2.2]⟩ (Exists.intro [0, 1, 2, 3, 4, 5, 6, 7] (And.intro ⟨hmore, hlen⟩ ⟨by simp only [skip (show depE (foldB u) y = false by simp [depE, k2])]; rfl, rfl, rfl⟩))
    · have k1 : ¬ y.2.1.kind = 4 := of_decide_eq_false k1
      exact Exists.intro ⟨pre ++ [y], seen ++ [y.2.2]⟩ (Exists.intro [0, 1, 2, 3, 4, 5, 6, 7] (And.intro ⟨hmore, hlen⟩ ⟨by simp only [skip (show depE (foldB u) y = false by simp [depE, k1])]; rfl, rfl, rfl⟩))
theorem s_Balance (h : Nat → Option Obj) (hc : CaseH h) (x : HL) (N : Nat) (hx : HI x N) (rx : List Value) (ro rc : Nat) (u : ByteArray) (hu : u.size ≤ 100000000) :
    Ctr Tryd.prog F_auct_House_Balance [.ptr 0 0, .raw (.string u)] (hoH x rx ro rc ++ [.heap h]) (fun r H => r = iv (depF x u - drawnF x (foldB u)) ∧ H = hoH x rx ro rc ++ [.heap h]) := by
  refine i_auct_House_Balance.spec follows ?_
  refine VCall.mk [0, 1, 2, 3, 4, 5, 6] (s_Deposited h hc x N hx rx ro rc u hu) ⟨rfl, rfl, rfl⟩ ?_
  rintro _ _ ⟨rfl, rfl⟩
  refine And.intro rfl (And.intro rfl ?_)
  refine VCall.mk [6] (s_name_Fold h hc u hu) ⟨rfl, rfl, rfl⟩ ?_
  rintro _ _ ⟨rfl, rfl⟩
  refine And.intro rfl (And.intro rfl ?_)
  have hd := hx.dr (foldB u)
  have hdp : 0 ≤ depF x u ∧ depF x u ≤ 1125899906842624 := by
    have h1 : 0 ≤ depS (foldB u) x.bs := depS_nn _ fun e he => (hx.be e he).1
    unfold depF; omega
  have hw : IntKind.i64.wrap (depF x u - (MP.get x.ds (foldB u)).getD 0) = depF x u - drawnF x (foldB u) := wrap64 (by unfold drawnF at hd; omega)
  refine Exists.intro (iv ((MP.get x.ds (foldB u)).getD 0)) (Exists.intro _ (Exists.intro _ (And.intro (lookD x.ds (foldB u)) (And.intro rfl ?_))))
  refine Exists.intro _ (And.intro hw ?_)
  exact VRet.mk [0, 1, 2, 3, 4, 5, 6] (iv (depF x u - drawnF x (foldB u))) (hoH x rx ro rc ++ [.heap h]) ⟨rfl, rfl, rfl⟩ ⟨rfl, rfl⟩
/-! ### All auctions -/
def opE (e : (Int × Int) × ST × Nat) : Bool := decide (e.2.1.kind = 1)
def aucF (x : HL) : List (Int × Int) := sortD ((x.bs.filter opE).map (·.1))
theorem cmp_srt {d l : List (Int × Int)} (hn : l.Nodup) (hp : d.Perm l) (hs : d.Pairwise fun a b => ¬ cmpD b a < 0) : d = sortD l := by
  have hnd : d.Nodup := hp.nodup_iff.2 hn
  refine srt_ext ?_ (srt_sortD hn) fun x => by rw [mem_sortD, hp.mem_iff]
  refine List.Pairwise.imp_of_mem ?_ (List.pairwise_and_iff.2 ⟨hs, hnd⟩)
  rintro ⟨a1, a2⟩ ⟨b1, b2⟩ _ _ ⟨h1, h2⟩
  rw [cmpD_lt] at h1
  unfold ltDD
  simp only [ne_eq, Prod.mk.injEq] at h1 h2 ⊢
  omega
structure AUX where
  pre : MB
  seen : List Nat
  l : List (Int × Int)
  n : Nat
  xs : List Value
  o : Nat
  c : Nat
structure AUI (bs : MB) (y : AUX) : Prop where
  been : Been bs y.pre y.seen
  hn : y.n = y.l.length
  row : RowG dcl 2 y.xs y.o y.c y.l
  hl : y.l = (y.pre.filter opE).map (·.1)
theorem s_Auctions (x : HL) (N : Nat) (hx : HI x N) (hN : N ≤ 1000000) (rx : List Value) (ro rc : Nat) :
    Ctr Tryd.prog F_auct_House_Auctions [.ptr 0 0] (hoH x rx ro rc)
      (fun r H => ∃ xs o c, r = .sl 6 o (aucF x).length c ∧ H = hoH x rx ro rc ++ [.arr xs T_api_Dot] ∧ RowG dcl 2 xs o c (aucF x) ∧ (aucF x).length ≤ N) := by
  have hxl := hx.bl
  refine i_auct_House_Auctions.spec follows ?_
  refine VLoop.nil T_api_Dot [3] [] ⟨rfl, rfl⟩ ?_
  refine VLoop.mk AUX (fun y => [(3, .sl 7 y.o y.n y.c), (10, .ptr 6 0)]) (fun y => hoH x rx ro rc ++ [.iter (some 1) x.bc y.seen x.bc, .arr y.xs T_api_Dot]) (AUI x.bs) (fun y => x.bs.length - y.pre.length) ⟨[], [], [], 0, [], 0, 0⟩ [0, 1, 2, 3, 4, 5, 6, 7]
    ⟨⟨Been.nil _, rfl, ⟨Nat.le_refl _, by simp, by simp⟩, rfl⟩, rfl, rfl, rfl⟩ ?_
  rintro ⟨pre, seen, l, n, xs, o, c⟩ ⟨h1, hn, hr, hl⟩ g
  simp only at h1 hn hr hl
  refine And.intro ⟨fun e he => ?_, Nat.le_refl _⟩ (And.intro (fun hall => ?_) (fun e he hns => ?_))
  · obtain ⟨y, hy, rfl⟩ := List.mem_map.1 he
    exact hx.b.1 y hy
  · have hsub : ∀ y, y ∈ x.bs → y ∈ pre := fun y hy => h1.all hx.b.2 hy (hall _ (List.mem_map.2 ⟨y, hy, rfl⟩))
    have hpn : pre.Nodup := by have := h1.nd; rw [h1.eq] at this; exact nodup_of_map _ this
    have hp : pre.Perm x.bs := (List.perm_ext_iff_of_nodup hpn (nodup_of_map _ hx.bk)).2 fun a => ⟨h1.sub a, hsub a⟩
    have hpl := hp.length_eq
    have hll : l.length ≤ pre.length := by rw [hl, List.length_map]; exact List.length_filter_le _ _
    subst hn
    refine VCall.mk [7] (s_SortFunc l xs o c hr (by omega)) ⟨rfl, rfl, rfl⟩ ?_
    rintro _ _ ⟨d', xs', rfl, rfl, hp', hs, hr'⟩
    have hdl := hp'.length_eq
    have hbn : ((x.bs.filter opE).map (·.1)).Nodup := List.Sublist.nodup (List.Sublist.map _ List.filter_sublist) hx.bk
    have hd : d' = aucF x := cmp_srt hbn (hp'.trans (hl ▸ ((hp.filter _).map _))) hs
    subst hd
    have hlen2 : (aucF x).length ≤ N := by omega
    rw [← hdl]
    exact VRet.mk [0, 1, 2, 3, 4, 5, 7] (.sl 6 o (aucF x).length c) (hoH x rx ro rc ++ [.arr xs' T_api_Dot]) ⟨rfl, rfl, rfl⟩ ⟨xs', o, c, rfl, rfl, hr', hlen2⟩
  · obtain ⟨y, hy, rfl⟩ := List.mem_map.1 he
    have hns : y.2.2 ∉ seen := hns
    have hlen : x.bs.length - (pre ++ [y]).length < x.bs.length - pre.length := by classical exact h1.len hy hns
    have hmore := h1.more hy hns
    have hf : ∀ {b : Bool}, opE y = b → ((pre ++ [y]).filter opE).map (·.1) = bif b then (pre.filter opE).map (·.1) ++ [y.1] else (pre.filter opE).map (·.1) := by
      rintro b rfl
      rw [List.filter_append, List.map_append]
      cases hq : opE y <;> simp [hq]
    refine Exists.intro y.2.2 (Exists.intro (ent encD encST y) (And.intro (last_snoc _ _) (And.intro (find_ents hx.b.2 hy) (And.intro rfl ?_))))
    refine And.intro (fun k1 => ?_) (fun k1 => ?_)
    · have hnb : (n + 1) * 16 ≤ 1099511627776 := by
        have h3 : l.length ≤ pre.length := by rw [hl, List.length_map]; exact List.length_filter_le _ _
        omega
      refine And.intro ⟨⟨by rw [hn]; exact hr.1, hr.2.1, rfl⟩, ⟨rfl, rfl⟩, hnb⟩ ?_
      intro xs' o' c' hz
      exact Exists.intro ⟨pre ++ [y], seen ++ [y.2.2], l ++ [y.1], n + 1, xs', o', c'⟩ (Exists.intro [0, 1, 2, 3, 4, 5, 6, 11] (And.intro ⟨⟨hmore, by simp only; rw [hn, List.length_append]; rfl, RowG.snoc hr hn hz.1 hz.2.1 hz.2.2, by rw [hf (b := true) k1, hl]; rfl⟩, hlen⟩ ⟨rfl, rfl, rfl⟩))
    · exact Exists.intro ⟨pre ++ [y], seen ++ [y.2.2], l, n, xs, o, c⟩ (Exists.intro [0, 1, 2, 3, 4, 5, 6, 7] (And.intro ⟨⟨hmore, hn, hr, by rw [hf (b := false) k1]; exact hl⟩, hlen⟩ ⟨rfl, rfl, rfl⟩))
end Go.Proofs

namespace Go.Proofs
open Go Go.V Go.Lib
set_option maxRecDepth 100000
set_option linter.unusedVariables false

/-! ### The chapter's example -/
def vec7 (a b c d e f g : Int) : Nat → Int | 0 => a | 1 => b | 2 => c | 3 => d | 4 => e | 5 => f | _ => g
abbrev tVase : ByteArray := ByteArray.mk #[118, 97, 115, 101]
abbrev tAnn : ByteArray := ByteArray.mk #[65, 110, 110]
abbrev tann : ByteArray := ByteArray.mk #[97, 110, 110]
def stA : ST := ⟨5, 0, 1, vec7 0 0 0 0 0 0 0, 0, es, tAnn, 0, 0, 0, 0, 0, 0⟩
def stB : ST := ⟨1, 0, 1, vec7 0 0 0 0 0 0 0, 1, tVase, es, 0, 0, 0, 0, 0, 0⟩
def stC : ST := ⟨2, 0, 2, vec7 1 0 0 0 0 0 0, 1, es, tann, 0, 1, 0, 0, 5, 0⟩
def stD : ST := ⟨2, 0, 3, vec7 2 0 0 0 0 0 0, 1, es, tann, 0, 1, 0, 0, 7, 0⟩
def stE : ST := ⟨7, 0, 2, vec7 3 0 0 0 0 0 0, 1, es, es, 0, 1, 0, 0, 0, 0⟩
def sm1 : HL := doN HL.new stA
def sm2 : HL := blueN sm1 stB
def sm3 : HL := blueN sm2 stC
def sm4 : HL := blueN sm3 stD
def sm5 : HL := doN sm4 stE
theorem f1 : doE HL.new stA = 0 ∧ doB HL.new stA = true := by decide +kernel
theorem f2 : blueE sm1 stB = 0 := by decide +kernel
theorem f3 : blueE sm2 stC = 0 := by decide +kernel
theorem f4 : blueE sm3 stD = 0 := by decide +kernel
theorem f5 : doE sm4 stE = 0 ∧ doB sm4 stE = true := by decide +kernel
theorem f6 : bestF sm4.bs (bidsF sm4.bs (0, 1) sm4.v) = some (0, 3) := by decide +kernel
theorem f7 : (MP.get sm5.cs (0, 1)).isSome = true ∧ ((MP.get sm5.cs (0, 1)).getD zeroO).br = 0 ∧ ((MP.get sm5.cs (0, 1)).getD zeroO).bn = 3 ∧ ((MP.get sm5.cs (0, 1)).getD zeroO).user = tann ∧ ((MP.get sm5.cs (0, 1)).getD zeroO).amount = 7 := by decide +kernel
theorem f8 : openF sm5 (0, 3) = false := by decide +kernel
theorem f9 : sm5.red.length = 2 := by decide +kernel
theorem i1 : HI sm1 1 := HI.new.red f1.1
theorem i2 : HI sm2 2 := i1.blue (by decide)
theorem i3 : HI sm3 3 := i2.blue (by decide)
theorem i4 : HI sm4 4 := i3.blue (by decide)
theorem i5 : HI sm5 5 := i4.red f5.1
abbrev hoP (x : HL) (rx : List Value) (ro rc : Nat) : List SO := [.cells (vcells x.v ++ [.mp 2, .sl 6 ro x.red.length rc, .mp 3, .mp 4, .mp 5]) T_auct_House,
  .map (ents encD encST x.bs) x.bc, .map (ents encT encB x.us) x.uc, .map (ents encT encN x.ds) x.dc, .map (ents encD encO x.cs) x.cc, .arr rx T_auct_Step]
theorem row0 : RowG stcl 19 [] 0 0 ([] : List ST) := ⟨Nat.le_refl _, by simp, by simp⟩
theorem blue_red (x : HL) (s : ST) : (blueN x s).red = x.red := by unfold blueN; cases decide (blueE x s = 0) <;> rfl
theorem s_some (h : Nat → Option Obj) (hu : Uni h) (hc : CaseH h) : Ctr Tryd.prog F_rostrumlaw24_some [] [.heap h]
    (fun r H => ∃ rx ro rc, r = .ptr 1 0 ∧ H = .heap h :: hoP sm4 rx ro rc ∧ RowG stcl 19 rx ro rc sm4.red) := by
  refine i_rostrumlaw24_some.spec follows ?_
  refine VCall.mk [] s_New ⟨rfl, rfl, rfl⟩ ?_
  rintro _ _ ⟨rfl, rfl⟩
  refine VCall.mk [1, 2, 3, 4, 5, 6, 0] (s_Do h hu hc HL.new 0 HI.new (by omega) [] 0 0 row0 stA (by decide) (by decide)) ⟨rfl, rfl, rfl⟩ ?_
  rintro _ _ (⟨he, _⟩ | ⟨he, rfl, rx, ro, rc, hr, rfl⟩)
  · exact absurd f1.1 he
  refine VCall.mk [1, 2, 3, 4, 5, 7, 0] (s_Blue h hu sm1 i1.v rx ro rc stB (by decide) (by decide)) ⟨rfl, rfl, rfl⟩ ?_
  rintro _ _ ⟨rfl, rfl⟩
  refine VCall.mk [1, 2, 3, 4, 5, 7, 0] (s_Blue h hu sm2 i2.v rx ro rc stC (by decide) (by decide)) ⟨rfl, rfl, rfl⟩ ?_
  rintro _ _ ⟨rfl, rfl⟩
  refine VCall.mk [1, 2, 3, 4, 5, 7, 0] (s_Blue h hu sm3 i3.v rx ro rc stD (by decide) (by decide)) ⟨rfl, rfl, rfl⟩ ?_
  rintro _ _ ⟨rfl, rfl⟩
  refine And.intro (fun _ => ?_) (fun k => absurd k (by rw [f1.2]; decide))
  refine And.intro (fun _ => ?_) (fun k => absurd k (by decide))
  refine And.intro (fun _ => ?_) (fun k => absurd k (by rw [f2]; decide))
  refine And.intro (fun _ => ?_) (fun k => absurd k (by rw [f3]; decide))
  refine And.intro (fun k => absurd k (by rw [f4]; decide)) (fun _ => ?_)
  have e4 : sm4.red = (doN HL.new stA).red := by unfold sm4 sm3 sm2 sm1; rw [blue_red, blue_red, blue_red]
  exact VRet.mk [0, 1, 2, 3, 4, 5, 7] (.ptr 1 0) (.heap h :: hoP sm4 rx ro rc) ⟨rfl, rfl, rfl⟩ ⟨rx, ro, rc, rfl, rfl, by rw [e4]; exact hr⟩
theorem s_awake (h : Nat → Option Obj) (hu : Uni h) (hc : CaseH h) : Ctr Tryd.prog F_rostrumlaw24_awake [] [.heap h] (fun r H => r = bv true ∧ H = [.heap h]) := by
  refine i_rostrumlaw24_awake.spec follows ?_
  refine VCall.mk [0] (s_some h hu hc) ⟨rfl, rfl, rfl⟩ ?_
  rintro _ _ ⟨rx, ro, rc, rfl, rfl, hr⟩
  refine VCall.mk [1, 2, 3, 4, 5, 6] (s_Best sm4 i4.b i4.bk (by have := i4.bl; omega) rx ro rc (0, 1)) ⟨rfl, rfl, rfl⟩ ?_
  rintro _ _ ⟨rfl, rfl⟩
  rw [f6]
  refine VCall.mk [1, 2, 3, 4, 5, 6, 0] (s_Do h hu hc sm4 4 i4 (by omega) rx ro rc hr stE (by decide) (by decide)) ⟨rfl, rfl, rfl⟩ ?_
  rintro _ _ (⟨he, _⟩ | ⟨he, rfl, rx, ro, rc, hr, rfl⟩)
  · exact absurd f5.1 he
  refine VCall.mk [1, 2, 3, 4, 5, 8] (s_Winner sm5 rx ro rc (0, 1)) ⟨rfl, rfl, rfl⟩ ?_
  rintro _ _ ⟨rfl, rfl⟩
  refine And.intro (fun _ => ?_) (fun k => absurd k (by decide))
  refine And.intro (fun _ => ?_) (fun k => absurd k (by decide))
  refine And.intro (fun _ => ?_) (fun k => absurd k (by rw [f5.2]; decide))
  refine And.intro (fun _ => ?_) (fun k => absurd k (by decide))
  refine And.intro (fun _ => ?_) (fun k => absurd k (by rw [f7.1]; decide))
  refine And.intro (fun _ => ?_) (fun k => absurd k (by rw [f7.2.1, f7.2.2.1]; decide))
  refine And.intro (fun _ => ?_) (fun k => absurd k (by rw [f7.2.2.2.1, beq_self_eq_true]; decide))
  refine And.intro (fun _ => ?_) (fun k => absurd k (by rw [f7.2.2.2.2]; decide))
  refine VCall.mk [1, 2, 3, 4, 5, 8] (s_Open sm5 rx ro rc (0, 3)) ⟨rfl, rfl, rfl⟩ ?_
  rintro _ _ ⟨rfl, rfl⟩
  refine And.intro (fun _ => ?_) (fun k => absurd k (by rw [f8]; decide))
  refine VCall.mk [1, 2, 3, 4, 5, 8] (s_Reds sm5 rx ro rc) ⟨rfl, rfl, rfl⟩ ?_
  rintro _ _ ⟨rfl, rfl⟩
  exact VRet.mk [0] (bv (decide ((sm5.red.length : Int) = 2))) [.heap h] ⟨rfl, rfl, rfl⟩ ⟨by rw [f9]; rfl, rfl⟩
end Go.Proofs

namespace Go.Proofs
open Go Go.V Go.Lib
set_option maxRecDepth 100000
set_option linter.unusedVariables false

/-! ### A bid that the closing step had not seen -/
theorem goodT_amt {s : ST} {a : Int} (ha : 1 ≤ a ∧ a ≤ 1000000000) (hk : amntK s.kind = true) (hg : goodT s = true) : goodT { s with amount := a } = true := by
  have h1 : numB a 1 1000000000 (amntK s.kind) = true := by simp [numB, hk, ha]
  have h2 : headT { s with amount := a } = headT s := rfl
  have h3 : partT { s with amount := a } = (wordB s.name (decide (s.kind = 1)) && (wordB s.user (userK s.kind) && (pointB s.ar s.an (auctK s.kind) && (pointB s.br s.bn (decide (s.kind = 3)) && (numB a 1 1000000000 (amntK s.kind) && numB s.funds 0 1125899906842624 (decide (s.kind = 6))))))) := rfl
  rw [h1] at h3
  unfold goodT at hg ⊢
  rw [h2, h3]
  unfold partT at hg
  show (headT s && ((redT s || decide (s.seen s.rep.toNat = s.n - 1)) && _)) = true
  revert hg
  generalize headT s = q0
  generalize (redT s || decide (s.seen s.rep.toNat = s.n - 1)) = q1
  generalize wordB s.name (decide (s.kind = 1)) = q2
  generalize wordB s.user (userK s.kind) = q3
  generalize pointB s.ar s.an (auctK s.kind) = q4
  generalize pointB s.br s.bn (decide (s.kind = 3)) = q5
  generalize numB s.amount 1 1000000000 (amntK s.kind) = q6
  generalize numB s.funds 0 1125899906842624 (decide (s.kind = 6)) = q7
  revert q0 q1 q2 q3 q4 q5 q6 q7
  decide
theorem blueE_amt {x : HL} {s : ST} {a : Int} (ha : 1 ≤ a ∧ a ≤ 1000000000) (hk : amntK s.kind = true) (hb : blueE x s = 0) : blueE x { s with amount := a } = 0 := by
  have hg := (blueE_0 hb).1
  have hg2 := goodT_amt ha hk hg
  have : blueE x { s with amount := a } = blueE x s := by
    unfold blueE
    rw [hg, hg2]
    rfl
  rw [this, hb]
abbrev tU : ByteArray := ByteArray.mk #[117]
def rA : ST := ⟨5, 0, 1, vec7 0 0 0 0 0 0 0, 0, es, tU, 0, 0, 0, 0, 0, 0⟩
def rB : ST := ⟨1, 0, 1, vec7 0 0 0 0 0 0 0, 1, tVase, es, 0, 0, 0, 0, 0, 0⟩
def rC (a : Int) : ST := ⟨2, 0, 2, vec7 1 0 0 0 0 0 0, 1, es, tU, 0, 1, 0, 0, a, 0⟩
def rL (a : Int) : ST := ⟨2, 1, 1, vec7 1 0 0 0 0 0 0, 1, es, tU, 0, 1, 0, 0, a, 0⟩
def rE : ST := ⟨7, 0, 2, vec7 2 0 0 0 0 0 0, 1, es, es, 0, 1, 0, 0, 0, 0⟩
def w1 : HL := doN HL.new rA
def w2 : HL := blueN w1 rB
/-- A house that took a blue step. -/
def tookN (x : HL) (s : ST) : HL := { x with v := upv x.v s.rep.toNat (x.v s.rep.toNat + 1), bs := MP.put x.bs (s.rep, s.n) s x.bc, bc := if (MP.get x.bs (s.rep, s.n)).isSome then x.bc else x.bc + 1 }
def w3 (a : Int) : HL := tookN w2 (rC a)
def w4 (a l : Int) : HL := tookN (w3 a) (rL l)
def w5 (a l : Int) : HL := csD (w4 a l) rE
def u4 (a : Int) : HL := csD (w3 a) rE
def u5 (a l : Int) : HL := tookN (u4 a) (rL l)
theorem j1 : doE HL.new rA = 0 := by decide +kernel
theorem j2 : blueE w1 rB = 0 := by decide +kernel
theorem j3' : blueE w2 (rC 1) = 0 := by decide +kernel
theorem j3 {a : Int} (ha : 1 ≤ a ∧ a ≤ 1000000000) : blueE w2 (rC a) = 0 := blueE_amt (s := rC 1) ha rfl j3'
theorem j3n {a : Int} (ha : 1 ≤ a ∧ a ≤ 1000000000) : blueN w2 (rC a) = w3 a := blueN_0 (j3 ha)
theorem gL1 : goodT (rL 1) = true := by decide +kernel
theorem j4 {a l : Int} (hl : 1 ≤ l ∧ l ≤ 1000000000) : blueE (w3 a) (rL l) = 0 := by
  have h1 : goodT (rL l) = true := goodT_amt (s := rL 1) hl rfl gL1
  have h2 : blueE (w3 a) (rL 1) = 0 := by
    unfold blueE
    rw [gL1]
    kernel_rfl
  exact blueE_amt (s := rL 1) hl rfl h2
theorem j5 (a l : Int) : doE (w4 a l) rE = 0 ∧ mayEnd (w4 a l) rE = true := ⟨by kernel_rfl, by kernel_rfl⟩
theorem j5u (a : Int) : doE (w3 a) rE = 0 ∧ mayEnd (w3 a) rE = true := ⟨by kernel_rfl, by kernel_rfl⟩
theorem j6 {a l : Int} (hl : 1 ≤ l ∧ l ≤ 1000000000) : blueE (u4 a) (rL l) = 0 := by
  have h2 : blueE (u4 a) (rL 1) = 0 := by
    unfold blueE
    rw [gL1]
    kernel_rfl
  exact blueE_amt (s := rL 1) hl rfl h2
theorem j7 (a l : Int) : MP.get (w5 a l).cs (0, 1) = some ⟨0, 2, tU, a⟩ := by kernel_rfl
theorem j8 (a l : Int) : MP.get (u5 a l).cs (0, 1) = some ⟨0, 2, tU, a⟩ := by kernel_rfl
theorem j9 (a l : Int) : bidsF (w5 a l).bs (0, 1) (w5 a l).v = [(0, 2), (1, 1)] := by kernel_rfl
theorem j10 (a l : Int) : bidsF (u5 a l).bs (0, 1) (u5 a l).v = [(0, 2), (1, 1)] := by kernel_rfl
theorem jw3n {a : Int} (ha : 1 ≤ a ∧ a ≤ 1000000000) : HI (w3 a) 3 := j3n ha ▸ (((HI.new.red j1).blue (s := rB) (by decide)).blue (s := rC a) (show (1 : Nat) ≤ 100000000 by omega) : HI (blueN w2 (rC a)) 3)
theorem red3 (a : Int) : (w3 a).red = w1.red := blue_red w1 rB
theorem e5 (a l : Int) : doN (w4 a l) rE = w5 a l ∧ doB (w4 a l) rE = true := ⟨by kernel_rfl, by kernel_rfl⟩
theorem e5u (a : Int) : doN (w3 a) rE = u4 a ∧ doB (w3 a) rE = true := ⟨by kernel_rfl, by kernel_rfl⟩
theorem s_AuctVoid (h : Nat → Option Obj) (hu : Uni h) (hc : CaseH h) (a l : Int) (ah : Bool) : Ctr Tryd.prog F_rostrumlaw24_AuctVoid [iv a, iv l, bv ah] [.heap h] (fun r H => r = bv true ∧ H = [.heap h]) := by
  refine i_rostrumlaw24_AuctVoid.spec follows ?_
  refine VCall.mk [0] (s_awake h hu hc) ⟨rfl, rfl, rfl⟩ ?_
  rintro _ _ ⟨rfl, rfl⟩
  refine And.intro (fun k => absurd k (by decide)) (fun _ => ?_)
  have fin : ∀ l : List SO, VRet 1 (bv true) (.heap h :: l) (fun r H => r = bv true ∧ H = [.heap h]) := fun l => VRet.mk [0] (bv true) [.heap h] ⟨rfl, rfl, rfl⟩ ⟨rfl, rfl⟩
  refine And.intro (fun k1 => ?_) (fun k1 => fin _)
  refine And.intro (fun k2 => ?_) (fun k2 => fin _)
  refine And.intro (fun k3 => ?_) (fun k3 => fin _)
  refine And.intro (fun k4 => fin _) (fun k4 => ?_)
  have ha : 1 ≤ a ∧ a ≤ 1000000000 := by
    have k1 := of_decide_eq_false k1
    have k2 := of_decide_eq_false k2
    omega
  have hl : 1 ≤ l ∧ l ≤ 1000000000 := by
    have k3 := of_decide_eq_false k3
    have k4 := of_decide_eq_false k4
    omega
  have I1 : HI w1 1 := HI.new.red j1
  have I2 : HI w2 2 := I1.blue (by decide)
  have I3 : HI (w3 a) 3 := jw3n ha
  refine VCall.mk [] s_New ⟨rfl, rfl, rfl⟩ ?_
  rintro _ _ ⟨rfl, rfl⟩
  refine VCall.mk [1, 2, 3, 4, 5, 6, 0] (s_Do h hu hc HL.new 0 HI.new (by omega) [] 0 0 row0 rA (by decide) (by decide)) ⟨rfl, rfl, rfl⟩ ?_
  rintro _ _ (⟨he, _⟩ | ⟨he, rfl, rx, ro, rc, hr, rfl⟩)
  · exact absurd j1 he
  refine VCall.mk [1, 2, 3, 4, 5, 8, 0] (s_Blue h hu w1 I1.v rx ro rc rB (by decide) (by decide)) ⟨rfl, rfl, rfl⟩ ?_
  rintro _ _ ⟨rfl, rfl⟩
  have hB := s_Blue h hu w2 I2.v rx ro rc (rC a) (show (0 : Nat) ≤ _ by omega) (show (1 : Nat) ≤ _ by omega)
  rw [j3n ha] at hB
  refine VCall.mk [1, 2, 3, 4, 5, 8, 0] hB ⟨rfl, rfl, rfl⟩ ?_
  rintro _ _ ⟨rfl, rfl⟩
  have hr3 : RowG stcl 19 rx ro rc (w3 a).red := by rw [red3]; exact hr
  cases ah with
  | true =>
    refine And.intro (fun _ => ?_) (fun k => absurd k (by decide))
    have hB := s_Blue h hu (w3 a) I3.v rx ro rc (rL l) (show (0 : Nat) ≤ _ by omega) (show (1 : Nat) ≤ _ by omega)
    rw [j4 hl, blueN_0 (j4 hl)] at hB
    refine VCall.mk [1, 2, 3, 4, 5, 8, 0] hB ⟨rfl, rfl, rfl⟩ ?_
    rintro _ _ ⟨rfl, rfl⟩
    refine And.intro (fun k => absurd k (by decide)) (fun _ => ?_)
    have e4 : blueN (w3 a) (rL l) = w4 a l := blueN_0 (j4 hl)
    have I4 : HI (w4 a l) 4 := e4 ▸ I3.blue (s := rL l) (show (1 : Nat) ≤ _ by omega)
    have hD := s_Do h hu hc (w4 a l) 4 I4 (by omega) rx ro rc hr3 rE (by decide) (by decide)
    unfold DoPost at hD
    rw [(e5 a l).1, (e5 a l).2] at hD
    refine VCall.mk [1, 2, 3, 4, 5, 8, 0] hD ⟨rfl, rfl, rfl⟩ ?_
    rintro _ _ (⟨he, _⟩ | ⟨he, rfl, rx, ro, rc, hr, rfl⟩)
    · exact absurd (j5 a l).1 he
    refine And.intro (fun k => absurd k (by decide)) (fun _ => ?_)
    have hW := s_Winner (w5 a l) rx ro rc (0, 1)
    rw [j7] at hW
    simp only [Option.getD_some, Option.isSome_some] at hW
    refine VCall.mk [1, 2, 3, 4, 5, 10] hW ⟨rfl, rfl, rfl⟩ ?_
    rintro _ _ ⟨rfl, rfl⟩
    refine And.intro (fun _ => ?_) (fun k => absurd k (by decide))
    refine And.intro (fun _ => ?_) (fun k => absurd k (by decide))
    refine And.intro (fun _ => ?_) (fun k => absurd k (by decide))
    refine And.intro (fun _ => ?_) (fun k => absurd k (by rw [beq_self_eq_true]; decide))
    refine And.intro (fun _ => ?_) (fun k => absurd k (by rw [show decide (a = a) = true from decide_eq_true rfl]; decide))
    refine And.intro (fun _ => ?_) (fun k => absurd k (by decide))
    have I5 : HI (w5 a l) 5 := (e5 a l).1 ▸ I4.red he
    have hB := s_Bids (w5 a l) I5.b I5.bk (by have := I5.bl; omega) rx ro rc (0, 1)
    rw [j9] at hB
    refine VCall.mk [1, 2, 3, 4, 5, 10] hB ⟨rfl, rfl, rfl⟩ ?_
    rintro _ _ ⟨_, _, _, rfl, rfl, _⟩
    exact fin _
  | false =>
    refine And.intro (fun k => absurd k (by decide)) (fun _ => ?_)
    have hD := s_Do h hu hc (w3 a) 3 I3 (by omega) rx ro rc hr3 rE (by decide) (by decide)
    unfold DoPost at hD
    rw [(e5u a).1, (e5u a).2] at hD
    refine VCall.mk [1, 2, 3, 4, 5, 8, 0] hD ⟨rfl, rfl, rfl⟩ ?_
    rintro _ _ (⟨he, _⟩ | ⟨he, rfl, rx, ro, rc, hr, rfl⟩)
    · exact absurd (j5u a).1 he
    have I4 : HI (u4 a) 4 := (e5u a).1 ▸ I3.red he
    refine And.intro (fun _ => ?_) (fun k => absurd k (by decide))
    have hB := s_Blue h hu (u4 a) I4.v rx ro rc (rL l) (show (0 : Nat) ≤ _ by omega) (show (1 : Nat) ≤ _ by omega)
    rw [j6 hl, blueN_0 (j6 hl)] at hB
    refine VCall.mk [1, 2, 3, 4, 5, 10, 0] hB ⟨rfl, rfl, rfl⟩ ?_
    rintro _ _ ⟨rfl, rfl⟩
    refine And.intro (fun k => absurd k (by decide)) (fun _ => ?_)
    have hW := s_Winner (u5 a l) rx ro rc (0, 1)
    rw [j8] at hW
    simp only [Option.getD_some, Option.isSome_some] at hW
    refine VCall.mk [1, 2, 3, 4, 5, 10] hW ⟨rfl, rfl, rfl⟩ ?_
    rintro _ _ ⟨rfl, rfl⟩
    refine And.intro (fun _ => ?_) (fun k => absurd k (by decide))
    refine And.intro (fun _ => ?_) (fun k => absurd k (by decide))
    refine And.intro (fun _ => ?_) (fun k => absurd k (by decide))
    refine And.intro (fun _ => ?_) (fun k => absurd k (by rw [beq_self_eq_true]; decide))
    refine And.intro (fun _ => ?_) (fun k => absurd k (by rw [show decide (a = a) = true from decide_eq_true rfl]; decide))
    refine And.intro (fun _ => ?_) (fun k => absurd k (by decide))
    have e5 : blueN (u4 a) (rL l) = u5 a l := blueN_0 (j6 hl)
    have I5 : HI (u5 a l) 5 := e5 ▸ I4.blue (s := rL l) (show (1 : Nat) ≤ _ by omega)
    have hB := s_Bids (u5 a l) I5.b I5.bk (by have := I5.bl; omega) rx ro rc (0, 1)
    rw [j10] at hB
    refine VCall.mk [1, 2, 3, 4, 5, 10] hB ⟨rfl, rfl, rfl⟩ ?_
    rintro _ _ ⟨_, _, _, rfl, rfl, _⟩
    exact fin _
end Go.Proofs

namespace Go.Proofs
open Go Go.V Go.Lib
set_option maxRecDepth 100000
set_option linter.unusedVariables false

/-! ### The best bid -/
theorem put_new {K V : Type} [DecidableEq K] : ∀ {ms : List (K × V × Nat)} {k : K} (v : V) (c : Nat), MP.get ms k = none → MP.put ms k v c = ms ++ [(k, v, c)]
  | [], k, v, c, _ => rfl
  | x :: ms, k, v, c, h => by
    rw [get_cons] at h
    split at h
    · cases h
    · rename_i hk
      rw [MP.put, if_neg hk, put_new v c h]; rfl
def oT : ST := ⟨1, 0, 1, vec7 0 0 0 0 0 0 0, 0, tVase, es, 0, 0, 0, 0, 0, 0⟩
def bidT (n a : Int) : ST := ⟨2, 0, n + 1, vec7 n 0 0 0 0 0 0, 0, es, tU, 0, 1, 0, 0, a, 0⟩
def canT (n b : Int) : ST := ⟨3, 0, n + 1, vec7 n 0 0 0 0 0 0, 0, es, es, 0, 0, 0, b, 0, 0⟩
theorem wU : wordB tU true = true := by decide +kernel
theorem wE : wordB es false = true := by decide +kernel
theorem vgood_iff {v : Nat → Int} : vgoodB v = true ↔ ∀ i, i < 7 → 0 ≤ v i ∧ v i ≤ 1099511627776 := by
  simp [vgoodB]
theorem vec_le {n : Int} {v : Nat → Int} (h0 : n ≤ v 0) (hz : ∀ i, i < 7 → 0 ≤ v i) : leB (vec7 n 0 0 0 0 0 0) v = true := by
  rw [leB_iff]
  intro i hi
  match i, hi with
  | 0, _ => exact h0
  | 1, hi => exact hz 1 hi | 2, hi => exact hz 2 hi | 3, hi => exact hz 3 hi | 4, hi => exact hz 4 hi | 5, hi => exact hz 5 hi | 6, hi => exact hz 6 hi
theorem vec_good {n : Int} (h : 0 ≤ n ∧ n ≤ 1099511627776) : vgoodB (vec7 n 0 0 0 0 0 0) = true := by
  rw [vgood_iff]
  intro i hi
  match i, hi with
  | 0, _ => exact h
  | 1, _ => exact ⟨Int.le_refl _, by show (0 : Int) ≤ _; omega⟩
  | 2, _ => exact ⟨Int.le_refl _, by show (0 : Int) ≤ _; omega⟩
  | 3, _ => exact ⟨Int.le_refl _, by show (0 : Int) ≤ _; omega⟩
  | 4, _ => exact ⟨Int.le_refl _, by show (0 : Int) ≤ _; omega⟩
  | 5, _ => exact ⟨Int.le_refl _, by show (0 : Int) ≤ _; omega⟩
  | 6, _ => exact ⟨Int.le_refl _, by show (0 : Int) ≤ _; omega⟩
theorem good_bid {n a : Int} (hn : 0 ≤ n ∧ n ≤ 1000) (ha : 1 ≤ a ∧ a ≤ 1000000000) : goodT (bidT n a) = true := by
  have h1 : headT (bidT n a) = true := by
    show (decide ((1 : Int) ≤ 2) && (decide ((2 : Int) ≤ 7) && (isDot 0 (n + 1) && (vgoodB (vec7 n 0 0 0 0 0 0) && (decide ((0 : Int) ≤ 0) && decide ((0 : Int) ≤ 1000)))))) = true
    rw [vec_good (show 0 ≤ n ∧ n ≤ 1099511627776 by omega), show isDot 0 (n + 1) = true by simp [isDot, isRep]; omega]
    decide
  have h2 : partT (bidT n a) = true := by
    show (wordB es false && (wordB tU true && (pointB 0 1 true && (pointB 0 0 false && (numB a 1 1000000000 true && numB 0 0 1125899906842624 false))))) = true
    rw [wU, wE, show numB a 1 1000000000 true = true by simp [numB, ha]]
    decide
  rw [goodT, h1, h2]
  show (true && ((false || decide (n = n + 1 - 1)) && true)) = true
  rw [show decide (n = n + 1 - 1) = true from decide_eq_true (by omega)]; rfl
theorem good_can {n b : Int} (hn : 0 ≤ n ∧ n ≤ 1000) (hb : 1 ≤ b ∧ b ≤ 1000) : goodT (canT n b) = true := by
  have h1 : headT (canT n b) = true := by
    show (decide ((1 : Int) ≤ 3) && (decide ((3 : Int) ≤ 7) && (isDot 0 (n + 1) && (vgoodB (vec7 n 0 0 0 0 0 0) && (decide ((0 : Int) ≤ 0) && decide ((0 : Int) ≤ 1000)))))) = true
    rw [vec_good (show 0 ≤ n ∧ n ≤ 1099511627776 by omega), show isDot 0 (n + 1) = true by simp [isDot, isRep]; omega]
    decide
  have h2 : partT (canT n b) = true := by
    show (wordB es false && (wordB es false && (pointB 0 0 false && (pointB 0 b true && (numB 0 1 1000000000 false && numB 0 0 1125899906842624 false))))) = true
    rw [wE, show pointB 0 b true = true by simp [pointB, isDot, isRep]; omega]
    decide
  rw [goodT, h1, h2]
  show (true && ((false || decide (n = n + 1 - 1)) && true)) = true
  rw [show decide (n = n + 1 - 1) = true from decide_eq_true (by omega)]; rfl
def Live (bs : MB) (d : Int × Int) : Prop := (∃ e, e ∈ bs ∧ e.1 = d ∧ e.2.1.kind = 2 ∧ e.2.1.ar = 0 ∧ e.2.1.an = 1) ∧ ¬ ∃ e, e ∈ bs ∧ e.2.1.kind = 3 ∧ e.2.1.br = d.1 ∧ e.2.1.bn = d.2
structure BS (x : HL) (N : Nat) (best : Int) (id : Int × Int) : Prop where
  hx : HI x N
  v0 : 1 ≤ x.v 0 ∧ x.v 0 ≤ N
  red : x.red = []
  old : ∀ e, e ∈ x.bs → e.2.1.kind = 3 → e.2.1.br = 0 ∧ e.2.1.bn ≤ x.v 0
  all0 : ∀ e, e ∈ x.bs → e.1.1 = 0 ∧ e.1.2 ≤ x.v 0
  is : (best = 0 ∧ id = (0, 0) ∧ ∀ d, ¬ Live x.bs d) ∨ (1 ≤ best ∧ Live x.bs id ∧ amt x.bs id = best ∧ ∀ d, Live x.bs d → ¬ gtB x.bs d id)
theorem Live.le {x : HL} {N : Nat} {best : Int} {id d : Int × Int} (h : BS x N best id) (hl : Live x.bs d) : d.1 = 0 ∧ d.2 ≤ x.v 0 := by
  obtain ⟨⟨e, h1, rfl, _⟩, _⟩ := hl
  exact h.all0 e h1
theorem blue_ok {x : HL} {N : Nat} {best : Int} {id : Int × Int} (h : BS x N best id) {s : ST} (hg : goodT s = true) (hr : s.rep = 0) (hn : s.n = x.v 0 + 1) (hs : s.seen = vec7 (x.v 0) 0 0 0 0 0 0) (hk : redT s = false) (hd : s.reds = 0) : blueE x s = 0 := by
  have h1 : has x.v s.rep s.n = false := by
    rw [Bool.eq_false_iff, Ne, hasI, hr, hn]
    show ¬ ((0 ≤ (0 : Int) ∧ (0 : Int) < 7) ∧ 1 ≤ x.v 0 + 1 ∧ x.v 0 + 1 ≤ x.v 0)
    omega
  have h2 : leB s.seen x.v = true := by
    rw [hs]
    exact vec_le (Int.le_refl _) fun i hi => (h.hx.v i hi).1
  unfold blueE
  rw [hg, hk, h1, h2, hd, h.red, show decide (s.n = x.v s.rep.toNat + 1) = true from decide_eq_true (by rw [hr]; exact hn)]
  rfl
theorem took_v0 {x : HL} {s : ST} (hr : s.rep = 0) : (tookN x s).v 0 = x.v 0 + 1 := by
  show upv x.v s.rep.toNat (x.v s.rep.toNat + 1) 0 = _
  rw [hr]; rfl
theorem took_bs {x : HL} {N : Nat} (hx : HI x N) {s : ST} (hb : blueE x s = 0) : (tookN x s).bs = x.bs ++ [((s.rep, s.n), s, x.bc)] ∧ MP.get x.bs (s.rep, s.n) = none := by
  have hf := hx.fresh (blueE_0 hb).2.2.1
  exact ⟨put_new _ _ hf, hf⟩
theorem took_hi {x : HL} {N : Nat} (hx : HI x N) {s : ST} (hb : blueE x s = 0) (hz : s.user.size ≤ 100000000) : HI (tookN x s) (N + 1) := by
  have e : blueN x s = tookN x s := blueN_0 hb
  exact e ▸ hx.blue hz
theorem amt_took {x : HL} {s : ST} {d : Int × Int} (h : d ≠ (s.rep, s.n)) : amt (tookN x s).bs d = amt x.bs d := by
  show ((MP.get (MP.put x.bs (s.rep, s.n) s x.bc) d).getD zeroT').amount = _
  rw [get_put, if_neg h]; rfl
theorem amt_new {x : HL} {s : ST} : amt (tookN x s).bs (s.rep, s.n) = s.amount := by
  show ((MP.get (MP.put x.bs (s.rep, s.n) s x.bc) (s.rep, s.n)).getD zeroT').amount = _
  rw [get_put, if_pos rfl]; rfl
theorem gtB_eq {bs bs' : MB} {a b : Int × Int} (h1 : amt bs' a = amt bs a) (h2 : amt bs' b = amt bs b) : gtB bs' a b ↔ gtB bs a b := by unfold gtB; rw [h1, h2]
theorem BS.bid {x : HL} {N : Nat} {best : Int} {id : Int × Int} (h : BS x N best id) (hN : N ≤ 100) {a : Int} (ha : 1 ≤ a ∧ a ≤ 1000000000) :
    blueE x (bidT (x.v 0) a) = 0 ∧ HI (tookN x (bidT (x.v 0) a)) (N + 1) ∧ (∀ d, Live (tookN x (bidT (x.v 0) a)).bs d ↔ Live x.bs d ∨ d = (0, x.v 0 + 1)) := by
  have hv := h.v0
  have hb : blueE x (bidT (x.v 0) a) = 0 := blue_ok h (good_bid (by omega) ha) rfl rfl rfl rfl rfl
  obtain ⟨e1, e2⟩ := took_bs h.hx hb
  refine ⟨hb, took_hi h.hx hb (show (1 : Nat) ≤ _ by omega), fun d => ?_⟩
  rw [e1]
  constructor
  · rintro ⟨⟨e, q1, q2, q3⟩, q4⟩
    rcases List.mem_append.1 q1 with q1 | q1
    · exact .inl ⟨⟨e, q1, q2, q3⟩, fun ⟨e', z1, z2⟩ => q4 ⟨e', List.mem_append.2 (.inl z1), z2⟩⟩
    · have q1 := List.mem_singleton.1 q1
      subst q1
      exact .inr q2.symm
  · rintro (⟨⟨e, q1, q2, q3⟩, q4⟩ | q)
    · refine ⟨⟨e, List.mem_append.2 (.inl q1), q2, q3⟩, fun ⟨e', z1, z2⟩ => ?_⟩
      rcases List.mem_append.1 z1 with z1 | z1
      · exact q4 ⟨e', z1, z2⟩
      · have z1 := List.mem_singleton.1 z1
        subst z1
        exact absurd z2.1 (by show ¬ (2 : Int) = 3; decide)
    · subst q
      refine ⟨⟨_, List.mem_append.2 (.inr (List.mem_singleton.2 rfl)), rfl, rfl, rfl, rfl⟩, fun ⟨e', z1, z2⟩ => ?_⟩
      rcases List.mem_append.1 z1 with z1 | z1
      · have := (h.old e' z1 z2.1).2
        have z3 : e'.2.1.bn = x.v 0 + 1 := z2.2.2
        omega
      · have z1 := List.mem_singleton.1 z1
        subst z1
        exact absurd z2.1 (by show ¬ (2 : Int) = 3; decide)
theorem BS.keep {x : HL} {N : Nat} {best : Int} {id : Int × Int} (h : BS x N best id) (hN : N ≤ 100) {a : Int} (ha : 1 ≤ a ∧ a ≤ 1000000000) :
    BS (tookN x (bidT (x.v 0) a)) (N + 1) (if best < a then a else best) (if best < a then (0, x.v 0 + 1) else id) := by
  obtain ⟨hb, hh, hl⟩ := h.bid hN ha
  have hv := h.v0
  have e0 : (tookN x (bidT (x.v 0) a)).v 0 = x.v 0 + 1 := took_v0 rfl
  obtain ⟨e1, e2⟩ := took_bs h.hx hb
  have hne : ∀ d, Live x.bs d → d ≠ (0, x.v 0 + 1) := fun d hd e => by
    have := hd.le h
    rw [e] at this
    have : x.v 0 + 1 ≤ x.v 0 := this.2
    omega
  have hold : ∀ d, Live x.bs d → amt (tookN x (bidT (x.v 0) a)).bs d = amt x.bs d := fun d hd => amt_took (hne d hd)
  have hnew : amt (tookN x (bidT (x.v 0) a)).bs (0, x.v 0 + 1) = a := amt_new
  refine ⟨hh, by rw [e0]; omega, h.red, fun e he hk => ?_, fun e he => ?_, ?_⟩
  · rw [e1] at he
    rcases List.mem_append.1 he with he | he
    · have := h.old e he hk; rw [e0]; omega
    · have he := List.mem_singleton.1 he
      subst he
      exact absurd hk (by show ¬ (2 : Int) = 3; decide)
  · rw [e1] at he
    rcases List.mem_append.1 he with he | he
    · have := h.all0 e he; rw [e0]; omega
    · have he := List.mem_singleton.1 he
      subst he
      rw [e0]
      exact ⟨rfl, Int.le_refl _⟩
  · by_cases hq : best < a
    · rw [if_pos hq, if_pos hq]
      refine .inr ⟨ha.1, (hl _).2 (.inr rfl), hnew, fun d hd => ?_⟩
      rcases (hl d).1 hd with k | k
      · intro hg
        rw [gtB, hold d k, hnew] at hg
        rcases h.is with ⟨_, _, i3⟩ | ⟨i1, i2, i3, i4⟩
        · exact i3 d k
        · have := i4 d k
          rw [gtB, i3] at this
          omega
      · subst k; exact gtB_irr
    · rw [if_neg hq, if_neg hq]
      rcases h.is with ⟨i1, _, _⟩ | ⟨i1, i2, i3, i4⟩
      · omega
      · refine .inr ⟨i1, (hl _).2 (.inl i2), by rw [hold _ i2, i3], fun d hd => ?_⟩
        rcases (hl d).1 hd with k | k
        · rw [gtB_eq (hold d k) (hold id i2)]; exact i4 d k
        · subst k
          rw [gtB, hnew, hold id i2, i3]
          have := i2.le h
          unfold ltDD
          simp only
          omega
theorem BS.gone {x : HL} {N : Nat} {best : Int} {id : Int × Int} (h : BS x N best id) (hN : N ≤ 100) {a : Int} (ha : 1 ≤ a ∧ a ≤ 1000000000) :
    blueE (tookN x (bidT (x.v 0) a)) (canT (x.v 0 + 1) (x.v 0 + 1)) = 0 ∧ BS (tookN (tookN x (bidT (x.v 0) a)) (canT (x.v 0 + 1) (x.v 0 + 1))) (N + 2) best id := by
  obtain ⟨hb, hh, hl⟩ := h.bid hN ha
  have hk := h.keep hN ha
  have hv := h.v0
  have e0 : (tookN x (bidT (x.v 0) a)).v 0 = x.v 0 + 1 := took_v0 rfl
  have hb2 : blueE (tookN x (bidT (x.v 0) a)) (canT (x.v 0 + 1) (x.v 0 + 1)) = 0 := by
    refine blue_ok hk (good_can (by omega) (by omega)) rfl ?_ ?_ rfl rfl
    · rw [e0]; rfl
    · rw [e0]; rfl
  refine ⟨hb2, ?_⟩
  have hh2 := took_hi hh hb2 (show (0 : Nat) ≤ _ by omega)
  obtain ⟨e1, e2⟩ := took_bs h.hx hb
  obtain ⟨f1, f2⟩ := took_bs hh hb2
  have f0 : (tookN (tookN x (bidT (x.v 0) a)) (canT (x.v 0 + 1) (x.v 0 + 1))).v 0 = x.v 0 + 1 + 1 := (took_v0 rfl).trans (by rw [e0])
  have hne : ∀ d, Live x.bs d → d ≠ (0, x.v 0 + 1) := fun d hd e => by
    have := hd.le h
    rw [e] at this
    have : x.v 0 + 1 ≤ x.v 0 := this.2
    omega
  have hne2 : ∀ d, Live x.bs d → d ≠ (0, x.v 0 + 1 + 1) := fun d hd e => by
    have := hd.le h
    rw [e] at this
    have : x.v 0 + 1 + 1 ≤ x.v 0 := this.2
    omega
  have hl2 : ∀ d, Live (tookN (tookN x (bidT (x.v 0) a)) (canT (x.v 0 + 1) (x.v 0 + 1))).bs d ↔ Live x.bs d := fun d => by
    have hcan : Live (tookN (tookN x (bidT (x.v 0) a)) (canT (x.v 0 + 1) (x.v 0 + 1))).bs d ↔ Live (tookN x (bidT (x.v 0) a)).bs d ∧ d ≠ (0, x.v 0 + 1) := by
      rw [f1]
      constructor
      · rintro ⟨⟨e, q1, q2, q3⟩, q4⟩
        rcases List.mem_append.1 q1 with q1 | q1
        · refine ⟨⟨⟨e, q1, q2, q3⟩, fun ⟨e', z1, z2⟩ => q4 ⟨e', List.mem_append.2 (.inl z1), z2⟩⟩, fun hd => ?_⟩
          subst hd
          exact q4 ⟨_, List.mem_append.2 (.inr (List.mem_singleton.2 rfl)), rfl, rfl, rfl⟩
        · have q1 := List.mem_singleton.1 q1
          subst q1
          exact absurd q3.1 (by show ¬ (3 : Int) = 2; decide)
      · rintro ⟨⟨⟨e, q1, q2, q3⟩, q4⟩, hd⟩
        refine ⟨⟨e, List.mem_append.2 (.inl q1), q2, q3⟩, fun ⟨e', z1, z2⟩ => ?_⟩
        rcases List.mem_append.1 z1 with z1 | z1
        · exact q4 ⟨e', z1, z2⟩
        · have z1 := List.mem_singleton.1 z1
          subst z1
          have z3 : (0 : Int) = d.1 := z2.2.1
          have z4 : x.v 0 + 1 = d.2 := z2.2.2
          exact hd (Prod.ext z3.symm z4.symm)
    rw [hcan, hl]
    constructor
    · rintro ⟨k | k, hd⟩
      · exact k
      · exact absurd k hd
    · intro k
      exact ⟨.inl k, hne d k⟩
  have hold : ∀ d, Live x.bs d → amt (tookN (tookN x (bidT (x.v 0) a)) (canT (x.v 0 + 1) (x.v 0 + 1))).bs d = amt x.bs d := fun d hd => by
    rw [amt_took (hne2 d hd), amt_took (hne d hd)]
  refine ⟨hh2, by rw [f0]; omega, h.red, fun e he hk => ?_, fun e he => ?_, ?_⟩
  · rw [f1, e1] at he
    rw [f0]
    rcases List.mem_append.1 he with he | he
    · rcases List.mem_append.1 he with he | he
      · have := h.old e he hk; omega
      · have he := List.mem_singleton.1 he
        subst he
        exact absurd hk (by show ¬ (2 : Int) = 3; decide)
    · have he := List.mem_singleton.1 he
      subst he
      show (0 : Int) = 0 ∧ x.v 0 + 1 ≤ x.v 0 + 1 + 1
      omega
  · rw [f1, e1] at he
    rw [f0]
    rcases List.mem_append.1 he with he | he
    · rcases List.mem_append.1 he with he | he
      · have := h.all0 e he; omega
      · have he := List.mem_singleton.1 he
        subst he
        show (0 : Int) = 0 ∧ x.v 0 + 1 ≤ x.v 0 + 1 + 1
        omega
    · have he := List.mem_singleton.1 he
      subst he
      exact ⟨rfl, Int.le_refl _⟩
  · rcases h.is with ⟨i1, i2, i3⟩ | ⟨i1, i2, i3, i4⟩
    · exact .inl ⟨i1, i2, fun d hd => i3 d ((hl2 d).1 hd)⟩
    · refine .inr ⟨i1, (hl2 _).2 i2, by rw [hold _ i2, i3], fun d hd => ?_⟩
      have hd := (hl2 d).1 hd
      rw [gtB_eq (hold d hd) (hold id i2)]; exact i4 d hd
/-- What the house then tells. -/
theorem BS.ends {x : HL} {N : Nat} {best : Int} {id : Int × Int} (h : BS x N best id) :
    (best = 0 ∧ id = (0, 0) ∧ bestF x.bs (bidsF x.bs (0, 1) x.v) = none ∧ (bidsF x.bs (0, 1) x.v).length = 0) ∨
    (1 ≤ best ∧ bestF x.bs (bidsF x.bs (0, 1) x.v) = some id ∧ 0 < (bidsF x.bs (0, 1) x.v).length) := by
  have hL := bidsF_is (a := (0, 1)) (sv := x.v) h.hx.bk
  have hmem : ∀ d, d ∈ bidsF x.bs (0, 1) x.v ↔ Live x.bs d := fun d => by
    rw [hL.mem]
    unfold Live
    constructor
    · rintro ⟨⟨e, q1, q2, q3⟩, q4⟩
      simp only [bidE, Bool.and_eq_true, decide_eq_true_eq] at q3
      refine ⟨⟨e, q1, q2, q3.2⟩, fun ⟨e', z1, z2, z3, z4⟩ => q4 ⟨e', z1, ?_⟩⟩
      simp only [canE, Bool.and_eq_true, decide_eq_true_eq]
      exact ⟨(h.hx.be e' z1).2.2.2.2, z2, z3, z4⟩
    · rintro ⟨⟨e, q1, q2, q3⟩, q4⟩
      refine ⟨⟨e, q1, q2, ?_⟩, fun ⟨e', z1, z2⟩ => q4 ⟨e', z1, ?_⟩⟩
      · simp only [bidE, Bool.and_eq_true, decide_eq_true_eq]
        exact ⟨(h.hx.be e q1).2.2.2.2, q3⟩
      · simp only [canE, Bool.and_eq_true, decide_eq_true_eq] at z2
        exact z2.2
  rcases h.is with ⟨i1, i2, i3⟩ | ⟨i1, i2, i3, i4⟩
  · have hnil : bidsF x.bs (0, 1) x.v = [] := List.eq_nil_iff_forall_not_mem.2 fun d hd => i3 d ((hmem d).1 hd)
    exact .inl ⟨i1, i2, by rw [hnil]; rfl, by rw [hnil]; rfl⟩
  · refine .inr ⟨i1, ?_, List.length_pos_of_mem ((hmem id).2 i2)⟩
    have hB : BestO x.bs (bidsF x.bs (0, 1) x.v) (some id) := ⟨(hmem id).2 i2, fun e he => i4 e ((hmem e).1 he)⟩
    exact hB.eq.symm
end Go.Proofs

namespace Go.Proofs
open Go Go.V Go.Lib
set_option maxRecDepth 100000
set_option linter.unusedVariables false

/-! ### Rows of plain elements behind a slice that came in -/
def RowsIs {α : Type} (cl : α → List Value) (k : Nat) (h : Nat → Option Obj) (v : Value) (L : List α) : Prop := ((∃ a c, v = .slice a 0 c) ∧ L = []) ∨
  ∃ (b o c : Nat) (xs : List Value) (e : TypeId) (fr : Nat × Nat), v = .slice (some ⟨b, o, none⟩) L.length c ∧ h b = some (.cells xs.toArray e fr) ∧ ∀ i (hi : i < L.length), V.cut xs (o + i * k) k = some (cl L[i])
theorem RowsIs.shape {α : Type} {cl : α → List Value} {k : Nat} {h : Nat → Option Obj} {v : Value} {L : List α} (hv : RowsIs cl k h v L) : ∃ a c, v = .slice a L.length c := by
  rcases hv with ⟨⟨a, c, rfl⟩, rfl⟩ | ⟨b, o, c, xs, e, fr, rfl, _⟩
  · exact ⟨a, c, rfl⟩
  · exact ⟨_, c, rfl⟩
theorem RowsIs.at {α : Type} {cl : α → List Value} {k : Nat} {h : Nat → Option Obj} {a : Option Addr} {n c : Nat} {L : List α} (hv : RowsIs cl k h (.slice a n c) L) {i : Nat} (hi : i < L.length) :
    ∃ (b o : Nat) (xs : List Value) (e : TypeId) (fr : Nat × Nat), a = some ⟨b, o, none⟩ ∧ h b = some (.cells xs.toArray e fr) ∧ ∀ j (hj : j < L.length), V.cut xs (o + j * k) k = some (cl L[j]) := by
  rcases hv with ⟨h1, rfl⟩ | ⟨b, o, c, xs, e, fr, h1, h2, h3⟩
  · simp at hi
  · cases h1
    exact ⟨b, o, xs, e, fr, rfl, h2, h3⟩
theorem RowsIs.pos {α : Type} {cl : α → List Value} {k : Nat} {h : Nat → Option Obj} {a : Option Addr} {n c : Nat} {L : List α} (hv : RowsIs cl k h (.slice a n c) L) :
    ∃ (b o : Nat) (xs : List Value) (e : TypeId) (fr : Nat × Nat), 0 < L.length → a = some ⟨b, o, none⟩ ∧ h b = some (.cells xs.toArray e fr) ∧ ∀ j (hj : j < L.length), V.cut xs (o + j * k) k = some (cl L[j]) := by
  by_cases h0 : 0 < L.length
  · obtain ⟨b, o, xs, e, fr, h1⟩ := hv.at h0
    exact ⟨b, o, xs, e, fr, fun _ => h1⟩
  · exact ⟨0, 0, [], 0, (0, 0), fun h1 => absurd h1 h0⟩
theorem cut_one {xs : List Value} {o n : Nat} {l : List Value} (h : V.cut xs o n = some l) (j : Nat) (hj : j < n) : xs[o + j]? = l[j]? := ((cut_spec h).2 j hj).symm
def intcl (n : Int) : List Value := [.int .i64 n]
def boolcl (b : Bool) : List Value := [.bool b]
theorem bs0 : BS (tookN HL.new oT) 1 0 (0, 0) where
  hx := took_hi HI.new (by decide +kernel) (by decide)
  v0 := by decide
  red := rfl
  old := fun e he hk => by
    have he := List.mem_singleton.1 he
    subst he
    exact absurd hk (by decide)
  all0 := fun e he => by
    have he := List.mem_singleton.1 he
    subst he
    exact ⟨rfl, by decide⟩
  is := .inl ⟨rfl, rfl, fun d hd => by
    obtain ⟨⟨e, he, _, hk, _⟩, _⟩ := hd
    have he := List.mem_singleton.1 he
    subst he
    exact absurd hk (by decide)⟩
theorem BS.mono {x : HL} {N M : Nat} {best : Int} {id : Int × Int} (h : BS x N best id) (hn : N ≤ M) : BS x M best id :=
  ⟨h.hx.mono hn, ⟨h.v0.1, Int.le_trans h.v0.2 (Int.ofNat_le.2 hn)⟩, h.red, h.old, h.all0, h.is⟩
structure BSX where
  x : HL
  best : Int
  id : Int × Int
  i : Nat
theorem s_AuctBest (h : Nat → Option Obj) (hu : Uni h) (hc : CaseH h) (v1 : Value) (A : List Int) (hv1 : RowsIs intcl 1 h v1 A) (_ : True) (v2 : Value) (G : List Bool) (hv2 : RowsIs boolcl 1 h v2 G) (_ : True) :
    Ctr Tryd.prog F_rostrumlaw24_AuctBest [.raw v1, .raw v2] [.heap h] (fun r H => r = bv true ∧ H = [.heap h]) := by
  obtain ⟨a1, c1, rfl⟩ := hv1.shape
  obtain ⟨a2, c2, rfl⟩ := hv2.shape
  obtain ⟨b1, o1, xs1, e1, fr1, p1⟩ := hv1.pos
  obtain ⟨b2, o2, xs2, e2, fr2, p2⟩ := hv2.pos
  have fin : ∀ l : List SO, VRet 1 (bv true) (.heap h :: l) (fun r H => r = bv true ∧ H = [.heap h]) := fun l => VRet.mk [0] (bv true) [.heap h] ⟨rfl, rfl, rfl⟩ ⟨rfl, rfl⟩
  refine i_rostrumlaw24_AuctBest.spec follows ?_
  refine VCall.mk [0] (s_awake h hu hc) ⟨rfl, rfl, rfl⟩ ?_
  rintro _ _ ⟨rfl, rfl⟩
  refine And.intro (fun k => absurd k (by decide)) (fun _ => ?_)
  refine And.intro (fun k1 => ?_) (fun k1 => fin _)
  refine And.intro (fun k2 => fin _) (fun k2 => ?_)
  have k1 : ¬ (15 : Int) < (A.length : Nat) := of_decide_eq_false k1
  have k2 : ¬ ((G.length : Nat) : Int) < (A.length : Nat) := of_decide_eq_false k2
  refine VCall.mk [] s_New ⟨rfl, rfl, rfl⟩ ?_
  rintro _ _ ⟨rfl, rfl⟩
  have hb0 : blueE HL.new oT = 0 := by decide +kernel
  have hB := s_Blue h hu HL.new HI.new.v [] 0 0 oT (by decide) (by decide)
  rw [hb0, blueN_0 hb0] at hB
  refine VCall.mk [1, 2, 3, 4, 5, 6, 0] hB ⟨rfl, rfl, rfl⟩ ?_
  rintro _ _ ⟨rfl, rfl⟩
  refine And.intro (fun k => absurd k (by decide)) (fun _ => ?_)
  refine VLoop.mk BSX (fun y => [(0, .raw (.slice a1 A.length c1)), (1, .raw (.slice a2 G.length c2)), (5, .ptr 1 0), (6, .ptr 7 0), (7, iv (y.x.v 0)), (8, iv y.best), (9, .ptr 8 0), (10, iv y.i)])
    (fun y => .heap h :: hoP y.x [] 0 0 ++ [.cells (dcells 0 1) 28, .cells (dcells y.id.1 y.id.2) 28]) (fun y => y.i ≤ A.length ∧ BS y.x (2 * y.i + 1) y.best y.id) (fun y => A.length - y.i) ⟨tookN HL.new oT, 0, (0, 0), 0⟩ [0, 1, 2, 3, 4, 5, 6, 7, 8]
    ⟨⟨Nat.zero_le _, bs0⟩, rfl, rfl, rfl⟩ ?_
  rintro ⟨x, best, id, i⟩ ⟨hi, hS⟩ g
  simp only at hi hS
  refine And.intro (fun h1 => ?_) (fun h1 => ?_)
  · have h1 : (i : Int) < (A.length : Nat) := of_decide_eq_true h1
    have hil : i < A.length := by omega
    have hig : i < G.length := by omega
    have hwi : IntKind.i64.wrap ((i : Int) + 1) = ((i + 1 : Nat) : Int) := wrap64 (by omega)
    have q1 := p1 (by omega)
    have q2 := p2 (by omega)
    obtain ⟨rfl, hh1, hcut1⟩ := q1
    obtain ⟨rfl, hh2, hcut2⟩ := q2
    have ci := cut_one (hcut1 i hil) 0 (by omega)
    have cg := cut_one (hcut2 i hig) 0 (by omega)
    have hv0 := hS.v0
    have hwn : IntKind.i64.wrap (x.v 0 + 1) = x.v 0 + 1 := wrap64 (by omega)
    have hwn2 : IntKind.i64.wrap (x.v 0 + 1 + 1) = x.v 0 + 1 + 1 := wrap64 (by omega)
    have hni : (0 : Int) ≤ (i : Int) ∧ (i : Int) < (A.length : Nat) := ⟨Int.natCast_nonneg i, h1⟩
    have hng : (0 : Int) ≤ (i : Int) ∧ (i : Int) < (G.length : Nat) := ⟨Int.natCast_nonneg i, by omega⟩
    refine And.intro hni ?_
    refine Exists.intro 0 (Exists.intro xs1 (Exists.intro e1 (Exists.intro fr1 (And.intro hh1 (Exists.intro _ (And.intro (by rw [Int.toNat_natCast]; exact ci) ?_))))))
    refine And.intro (fun k3 => ?_) (fun k3 => fin _)
    refine And.intro hni ?_
    refine Exists.intro 0 (Exists.intro xs1 (Exists.intro e1 (Exists.intro fr1 (And.intro hh1 (Exists.intro _ (And.intro (by rw [Int.toNat_natCast]; exact ci) ?_))))))
    refine And.intro (fun k4 => fin _) (fun k4 => ?_)
    have k3 := of_decide_eq_false k3
    have k4 := of_decide_eq_false k4
    have ha : 1 ≤ A[i] ∧ A[i] ≤ 1000000000 := by omega
    refine Exists.intro _ (And.intro hwn ?_)
    refine And.intro hni ?_
    refine Exists.intro 0 (Exists.intro xs1 (Exists.intro e1 (Exists.intro fr1 (And.intro hh1 (Exists.intro _ (And.intro (by rw [Int.toNat_natCast]; exact ci) ?_))))))
    refine And.intro rfl (And.intro rfl ?_)
    refine And.intro (And.intro hni rfl) ?_
    refine And.intro (Exists.intro 0 (Exists.intro xs1 (Exists.intro e1 (Exists.intro fr1 (And.intro hh1 (Exists.intro _ (And.intro (by rw [Int.toNat_natCast]; exact ci) rfl))))))) ?_
    refine And.intro rfl ?_
    refine Exists.intro _ (And.intro hwn ?_)
    obtain ⟨hb, hh, -⟩ := hS.bid (by omega) ha
    have hB := s_Blue h hu x hS.hx.v [] 0 0 (bidT (x.v 0) A[i]) (show (0 : Nat) ≤ _ by omega) (show (1 : Nat) ≤ _ by omega)
    rw [hb, blueN_0 hb] at hB
    refine VCall.mk [1, 2, 3, 4, 5, 6, 0] hB ⟨rfl, rfl, rfl⟩ ?_
    rintro _ _ ⟨rfl, rfl⟩
    refine And.intro (fun k => absurd k (by decide)) (fun _ => ?_)
    refine And.intro hng ?_
    refine Exists.intro 0 (Exists.intro xs2 (Exists.intro e2 (Exists.intro fr2 (And.intro hh2 (Exists.intro _ (And.intro (by rw [Int.toNat_natCast]; exact cg) ?_))))))
    refine And.intro (fun g1 => ?_) (fun g1 => ?_)
    · refine Exists.intro _ (And.intro hwn2 ?_)
      refine Exists.intro _ (And.intro hwn2 ?_)
      obtain ⟨hb2, hS2⟩ := hS.gone (by omega) ha
      have hB2 := s_Blue h hu (tookN x (bidT (x.v 0) A[i])) hh.v [] 0 0 (canT (x.v 0 + 1) (x.v 0 + 1)) (show (0 : Nat) ≤ _ by omega) (show (0 : Nat) ≤ _ by omega)
      rw [hb2, blueN_0 hb2] at hB2
      refine VCall.mk [1, 2, 3, 4, 5, 6, 0] hB2 ⟨rfl, rfl, rfl⟩ ?_
      rintro _ _ ⟨rfl, rfl⟩
      refine And.intro (fun k => absurd k (by decide)) (fun _ => ?_)
      refine Exists.intro _ (And.intro hwi ?_)
      exact Exists.intro ⟨tookN (tookN x (bidT (x.v 0) A[i])) (canT (x.v 0 + 1) (x.v 0 + 1)), best, id, i + 1⟩ (Exists.intro [0, 1, 2, 3, 4, 5, 6, 7, 8] (And.intro ⟨⟨hil, hS2⟩, by simp only; omega⟩ ⟨rfl, rfl, rfl⟩))
    · have hK := hS.keep (by omega) ha
      refine And.intro hni ?_
      refine Exists.intro 0 (Exists.intro xs1 (Exists.intro e1 (Exists.intro fr1 (And.intro hh1 (Exists.intro _ (And.intro (by rw [Int.toNat_natCast]; exact ci) ?_))))))
      refine And.intro (fun k5 => ?_) (fun k5 => ?_)
      · have k5 : best < A[i] := of_decide_eq_true k5
        rw [if_pos k5, if_pos k5] at hK
        refine And.intro hni ?_
        refine Exists.intro 0 (Exists.intro xs1 (Exists.intro e1 (Exists.intro fr1 (And.intro hh1 (Exists.intro _ (And.intro (by rw [Int.toNat_natCast]; exact ci) ?_))))))
        refine Exists.intro _ (And.intro hwi ?_)
        exact Exists.intro ⟨tookN x (bidT (x.v 0) A[i]), A[i], (0, x.v 0 + 1), i + 1⟩ (Exists.intro [0, 1, 2, 3, 4, 5, 6, 7, 8] (And.intro ⟨⟨hil, hK.mono (by simp only; omega)⟩, by simp only; omega⟩ ⟨rfl, rfl, rfl⟩))
      · have k5 : ¬ best < A[i] := of_decide_eq_false k5
        rw [if_neg k5, if_neg k5] at hK
        refine Exists.intro _ (And.intro hwi ?_)
        exact Exists.intro ⟨tookN x (bidT (x.v 0) A[i]), best, id, i + 1⟩ (Exists.intro [0, 1, 2, 3, 4, 5, 6, 7, 8] (And.intro ⟨⟨hil, hK.mono (by simp only; omega)⟩, by simp only; omega⟩ ⟨rfl, rfl, rfl⟩))
  · have hN : x.bs.length ≤ 1000000 := by have := hS.hx.bl; omega
    have hE := hS.ends
    have hBe := s_Best x hS.hx.b hS.hx.bk hN [] 0 0 (0, 1)
    have hBi := s_Bids x hS.hx.b hS.hx.bk hN [] 0 0 (0, 1)
    rcases hE with ⟨r1, r2, r3, r4⟩ | ⟨r1, r2, r3⟩
    · rw [r3] at hBe
      rw [r4] at hBi
      subst r1 r2
      refine VCall.mk [1, 2, 3, 4, 5, 6] hBe ⟨rfl, rfl, rfl⟩ ?_
      rintro _ _ ⟨rfl, rfl⟩
      refine And.intro (fun _ => ?_) (fun k => absurd k (by simp))
      refine And.intro (fun _ => ?_) (fun k => absurd k (by simp))
      refine VCall.mk [1, 2, 3, 4, 5, 6] hBi ⟨rfl, rfl, rfl⟩ ?_
      rintro _ _ ⟨xs, o, c, rfl, rfl, hr, hll⟩
      refine VRet.mk [0] (bv _) [.heap h] ⟨rfl, rfl, rfl⟩ ⟨?_, rfl⟩
      simp
    · rw [r2] at hBe
      refine VCall.mk [1, 2, 3, 4, 5, 6] hBe ⟨rfl, rfl, rfl⟩ ?_
      rintro _ _ ⟨rfl, rfl⟩
      have r1' : (0 : Int) < best := by omega
      refine And.intro (fun k5 => ?_) (fun k => absurd k (by simp [r1']))
      refine And.intro (fun k6 => ?_) (fun k => absurd k (by simp))
      refine VCall.mk [1, 2, 3, 4, 5, 6] hBi ⟨rfl, rfl, rfl⟩ ?_
      rintro _ _ ⟨xs, o, c, rfl, rfl, hr, hll⟩
      refine VRet.mk [0] (bv _) [.heap h] ⟨rfl, rfl, rfl⟩ ⟨?_, rfl⟩
      simp [r1', r3]
end Go.Proofs

