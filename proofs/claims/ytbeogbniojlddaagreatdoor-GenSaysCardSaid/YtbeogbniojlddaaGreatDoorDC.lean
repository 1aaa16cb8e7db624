/- Part of the proof that the statement named in the last file holds: lemmas of the prover's own. No conditions. -/
import Derived.Test.YtbeogbniojlddaaGreatDoorDB
import Derived.Test.YtbeogbniojlddaaGreatDoorVD
namespace Go.Proofs
open Go Go.V Go.Lib
set_option maxRecDepth 100000
set_option linter.unusedVariables false

/-! ### What a house answers, reckoned -/
def ltDB (a b : Int × Int) : Bool := decide (a.1 < b.1) || (decide (a.1 = b.1) && decide (a.2 < b.2))
theorem ltDB_iff {a b : Int × Int} : ltDB a b = true ↔ ltDD a b := by simp [ltDB, ltDD]
def insD (d : Int × Int) : List (Int × Int) → List (Int × Int)
  | [] => [d]
  | e :: l => bif ltDB d e then d :: e :: l else e :: insD d l
def sortD (l : List (Int × Int)) : List (Int × Int) := l.foldr insD []
theorem mem_insD {d x : Int × Int} : ∀ {l : List (Int × Int)}, x ∈ insD d l ↔ x = d ∨ x ∈ l
  | [] => by simp [insD]
  | e :: l => by
    unfold insD
    cases ltDB d e
    · simp only [cond_false, List.mem_cons, mem_insD (l := l)]
      constructor
      · rintro (h | h | h)
        · exact .inr (.inl h)
        · exact .inl h
        · exact .inr (.inr h)
      · rintro (h | h | h)
        · exact .inr (.inl h)
        · exact .inl h
        · exact .inr (.inr h)
    · simp
theorem mem_sortD {x : Int × Int} : ∀ {l : List (Int × Int)}, x ∈ sortD l ↔ x ∈ l
  | [] => by simp [sortD]
  | e :: l => by
    show x ∈ insD e (sortD l) ↔ _
    rw [mem_insD, mem_sortD (l := l), List.mem_cons]
theorem ltDD.trans {a b c : Int × Int} (h1 : ltDD a b) (h2 : ltDD b c) : ltDD a c := by unfold ltDD at *; omega
theorem ltDD.irr {a : Int × Int} : ¬ ltDD a a := by unfold ltDD; omega
theorem ltDD.tri {a b : Int × Int} (h : a ≠ b) : ltDD a b ∨ ltDD b a := by
  obtain ⟨a1, a2⟩ := a
  obtain ⟨b1, b2⟩ := b
  simp only [ne_eq, Prod.mk.injEq] at h
  unfold ltDD
  simp only
  omega
theorem srt_insD {d : Int × Int} : ∀ {l : List (Int × Int)}, l.Pairwise ltDD → d ∉ l → (insD d l).Pairwise ltDD
  | [], _, _ => by simp [insD]
  | e :: l, h, hd => by
    simp only [List.pairwise_cons] at h
    simp only [List.mem_cons, not_or] at hd
    unfold insD
    cases hq : ltDB d e
    · refine List.pairwise_cons.2 ⟨fun x hx => ?_, srt_insD h.2 hd.2⟩
      rcases mem_insD.1 hx with h1 | h1
      · subst h1
        rcases ltDD.tri hd.1 with h2 | h2
        · rw [ltDB_iff.2 h2] at hq; cases hq
        · exact h2
      · exact h.1 x h1
    · have hq := ltDB_iff.1 hq
      refine List.pairwise_cons.2 ⟨fun x hx => ?_, List.pairwise_cons.2 h⟩
      rcases List.mem_cons.1 hx with h1 | h1
      · subst h1; exact hq
      · exact hq.trans (h.1 x h1)
theorem srt_sortD : ∀ {l : List (Int × Int)}, l.Nodup → (sortD l).Pairwise ltDD
  | [], _ => by simp [sortD]
  | e :: l, h => by
    have h := List.nodup_cons.1 h
    exact srt_insD (srt_sortD h.2) (fun k => h.1 (mem_sortD.1 k))
theorem srt_ext : ∀ {l m : List (Int × Int)}, l.Pairwise ltDD → m.Pairwise ltDD → (∀ x, x ∈ l ↔ x ∈ m) → l = m
  | [], [], _, _, _ => rfl
  | [], b :: m, _, _, h => absurd ((h b).2 (by simp)) (by simp)
  | a :: l, [], _, _, h => absurd ((h a).1 (by simp)) (by simp)
  | a :: l, b :: m, hl, hm, h => by
    have hl := List.pairwise_cons.1 hl
    have hm := List.pairwise_cons.1 hm
    have hab : a = b := by
      have h1 := List.mem_cons.1 ((h a).1 (by simp))
      have h2 := List.mem_cons.1 ((h b).2 (by simp))
      rcases h1 with h1 | h1
      · exact h1
      · rcases h2 with h2 | h2
        · exact h2.symm
        · exact absurd ((hm.1 a h1).trans (hl.1 b h2)) ltDD.irr
    subst hab
    congr 1
    refine srt_ext hl.2 hm.2 fun x => ⟨fun hx => ?_, fun hx => ?_⟩
    · rcases List.mem_cons.1 ((h x).1 (List.mem_cons.2 (.inr hx))) with h1 | h1
      · subst h1; exact absurd (hl.1 x hx) ltDD.irr
      · exact h1
    · rcases List.mem_cons.1 ((h x).2 (List.mem_cons.2 (.inr hx))) with h1 | h1
      · subst h1; exact absurd (hm.1 x hx) ltDD.irr
      · exact h1
/-- An auction's bids, in order. -/
def bidsF (bs : MB) (a : Int × Int) (sv : Nat → Int) : List (Int × Int) := sortD (((bs.filter (bidE a sv)).map (·.1)).filter fun d => !bs.any (canE sv d))
theorem bidsF_is {bs : MB} {a : Int × Int} {sv : Nat → Int} (hnd : (bs.map (·.1)).Nodup) : BidsL bs a sv (bidsF bs a sv) where
  srt := by
    exact srt_sortD (List.Sublist.nodup List.filter_sublist (List.Sublist.nodup (List.Sublist.map _ List.filter_sublist) hnd))
  mem := fun d => by
    rw [bidsF, mem_sortD, List.mem_filter, List.mem_map]
    constructor
    · rintro ⟨⟨e, he, rfl⟩, h2⟩
      have he := List.mem_filter.1 he
      refine ⟨⟨e, he.1, rfl, he.2⟩, ?_⟩
      rintro ⟨e', h3, h4⟩
      rw [List.any_eq_true.2 ⟨e', h3, h4⟩] at h2; cases h2
    · rintro ⟨⟨e, h1, rfl, h2⟩, h3⟩
      refine ⟨⟨e, List.mem_filter.2 ⟨h1, h2⟩, rfl⟩, ?_⟩
      cases hq : bs.any (canE sv e.1) with
      | false => rfl
      | true => exact absurd (List.any_eq_true.1 hq) h3
theorem BidsL.eq {bs : MB} {a : Int × Int} {sv : Nat → Int} {l : List (Int × Int)} (h : BidsL bs a sv l) (hnd : (bs.map (·.1)).Nodup) : l = bidsF bs a sv :=
  srt_ext h.srt (bidsF_is hnd).srt fun x => by rw [h.mem, (bidsF_is hnd).mem]
def gtBB (bs : MB) (a b : Int × Int) : Bool := decide (amt bs b < amt bs a) || (decide (amt bs a = amt bs b) && ltDB a b)
theorem gtBB_iff {bs : MB} {a b : Int × Int} : gtBB bs a b = true ↔ gtB bs a b := by simp [gtBB, gtB, ltDB_iff]
theorem gtB.trans {bs : MB} {a b c : Int × Int} (h1 : gtB bs a b) (h2 : gtB bs b c) : gtB bs a c := by unfold gtB ltDD at *; omega
theorem gtB.tri {bs : MB} {a b : Int × Int} (h : a ≠ b) : gtB bs a b ∨ gtB bs b a := by
  have := ltDD.tri h
  unfold gtB
  rcases this with h | h <;> by_cases h1 : amt bs a < amt bs b <;> by_cases h2 : amt bs b < amt bs a <;> simp [h1, h2, h] <;> omega
/-- The best of a row of bids. -/
def bestF (bs : MB) : List (Int × Int) → Option (Int × Int)
  | [] => none
  | d :: t => some (t.foldl (fun m e => bif gtBB bs e m then e else m) d)
theorem bestF_fold {bs : MB} : ∀ (t : List (Int × Int)) (d : Int × Int), (t.foldl (fun m e => bif gtBB bs e m then e else m) d) ∈ d :: t ∧ ∀ e, e ∈ d :: t → ¬ gtB bs e (t.foldl (fun m e => bif gtBB bs e m then e else m) d)
  | [], d => ⟨by simp, fun e he => by simp at he; subst he; exact gtB_irr⟩
  | x :: t, d => by
    simp only [List.foldl_cons]
    cases hq : gtBB bs x d
    · obtain ⟨h1, h2⟩ := bestF_fold t d
      simp only [cond_false]
      refine ⟨?_, fun e he => ?_⟩
      · rcases List.mem_cons.1 h1 with h | h
        · rw [h]; simp
        · simp [h]
      · rcases List.mem_cons.1 he with h | h
        · exact h2 e (by simp [h])
        · rcases List.mem_cons.1 h with h | h
          · subst h
            intro k
            have h3 := h2 d (by simp)
            have hq : ¬ gtB bs e d := fun k => by rw [gtBB_iff.2 k] at hq; cases hq
            exact (gtB_keep k h3) |> fun h => by
              unfold gtB ltDD at *
              omega
          · exact h2 e (by simp [h])
    · obtain ⟨h1, h2⟩ := bestF_fold t x
      simp only [cond_true]
      have hq := gtBB_iff.1 hq
      refine ⟨by simp only [List.mem_cons] at h1 ⊢; exact .inr h1, fun e he => ?_⟩
      rcases List.mem_cons.1 he with h | h
      · subst h
        intro k
        exact h2 x (by simp) (hq.trans k)
      · exact h2 e h
theorem BestO.eq {bs : MB} : ∀ {d : List (Int × Int)} {m : Option (Int × Int)}, BestO bs d m → m = bestF bs d
  | [], none, _ => rfl
  | [], some m, h => absurd h.1 (by simp)
  | d :: t, none, h => absurd h (by simp [BestO])
  | d :: t, some m, h => by
    have h' := bestF_fold (bs := bs) t d
    show some m = some _
    congr 1
    generalize hb : t.foldl (fun m e => bif gtBB bs e m then e else m) d = b at h'
    by_cases e : m = b
    · exact e
    · rcases gtB.tri (bs := bs) e with k | k
      · exact absurd k (h'.2 m h.1)
      · exact absurd k (h.2 b h'.1)
/-- How an auction ends by a step. -/
def outF (x : HL) (s : ST) : OC := match bestF x.bs ((bidsF x.bs (s.ar, s.an) s.seen).filter (regB x)) with
  | none => zeroO
  | some m => ⟨m.1, m.2, usr x.bs m, amt x.bs m⟩
theorem OutL.eq {x : HL} {s : ST} {o : OC} (h : OutL x s o) (hnd : (x.bs.map (·.1)).Nodup) : o = outF x s := by
  obtain ⟨l, m, h1, h2, h3⟩ := h.ex
  rw [h1.eq hnd] at h2
  have h2 := h2.eq
  subst h2
  rw [h3, outF]
  cases bestF x.bs ((bidsF x.bs (s.ar, s.an) s.seen).filter (regB x)) <;> rfl
/-! ### Red steps -/
def HL.did (x : HL) (s : ST) : HL := { x with red := x.red ++ [s] }
def usD (x : HL) (s : ST) : HL := { x.did s with us := MP.put x.us (foldB s.user) true x.uc, uc := if (MP.get x.us (foldB s.user)).isSome then x.uc else x.uc + 1 }
def drawnF (x : HL) (u : ByteArray) : Int := (MP.get x.ds u).getD 0
def dsD (x : HL) (s : ST) : HL := { x.did s with ds := MP.put x.ds (foldB s.user) (drawnF x (foldB s.user) + s.amount) x.dc, dc := if (MP.get x.ds (foldB s.user)).isSome then x.dc else x.dc + 1 }
def csD (x : HL) (s : ST) : HL := { x.did s with cs := MP.put x.cs (s.ar, s.an) (outF x s) x.cc, cc := if (MP.get x.cs (s.ar, s.an)).isSome then x.cc else x.cc + 1 }
def gapT (x : HL) (s : ST) : Bool := !leB s.seen x.v || decide ((x.red.length : Int) < s.reds)
def mayEnd (x : HL) (s : ST) : Bool := !(MP.get x.cs (s.ar, s.an)).isSome && (has s.seen s.ar s.an && decide (((MP.get x.bs (s.ar, s.an)).getD zeroT').kind = 1))
def doE (x : HL) (s : ST) : Int := bif !goodT s || !redT s then 1 else bif gapT x s then 8 else 0
def doN (x : HL) (s : ST) : HL := bif decide (s.kind = 5) then usD x s else
  bif decide (s.kind = 6) then (bif decide (s.amount ≤ s.funds - drawnF x (foldB s.user)) then dsD x s else x.did s) else
  bif mayEnd x s then csD x s else x.did s
def doB (x : HL) (s : ST) : Bool := bif decide (s.kind = 5) then !(MP.get x.us (foldB s.user)).getD false else
  bif decide (s.kind = 6) then decide (s.amount ≤ s.funds - drawnF x (foldB s.user)) else mayEnd x s
end Go.Proofs

namespace Go.Proofs
open Go Go.V Go.Lib
set_option maxRecDepth 100000
set_option linter.unusedVariables false

/-! ### What holds of a house -/
theorem mem_put {K V : Type} [DecidableEq K] {e : K × V × Nat} : ∀ {ms : List (K × V × Nat)} {k : K} {v : V} {c : Nat}, e ∈ MP.put ms k v c → e ∈ ms ∨ (e.1 = k ∧ e.2.1 = v)
  | [], k, v, c, h => by simp [MP.put] at h; subst h; exact .inr ⟨rfl, rfl⟩
  | x :: ms, k, v, c, h => by
    unfold MP.put at h
    split at h
    · rename_i hk
      rcases List.mem_cons.1 h with h1 | h1
      · subst h1; exact .inr ⟨hk.symm, rfl⟩
      · exact .inl (by simp [h1])
    · rcases List.mem_cons.1 h with h1 | h1
      · exact .inl (by simp [h1])
      · rcases mem_put h1 with h2 | h2
        · exact .inl (by simp [h2])
        · exact .inr h2
theorem get_of_mem {K V : Type} [DecidableEq K] : ∀ {ms : List (K × V × Nat)} {e : K × V × Nat}, (ms.map (·.1)).Nodup → e ∈ ms → MP.get ms e.1 = some e.2.1
  | [], e, _, h => by simp at h
  | x :: ms, e, hn, h => by
    simp only [List.map_cons, List.nodup_cons] at hn
    rw [get_cons]
    rcases List.mem_cons.1 h with h1 | h1
    · subst h1; simp
    · have : e.1 ≠ x.1 := fun k => hn.1 (List.mem_map.2 ⟨e, h1, k⟩)
      rw [if_neg this]; exact get_of_mem hn.2 h1
theorem mem_of_get {K V : Type} [DecidableEq K] : ∀ {ms : List (K × V × Nat)} {k : K} {v : V}, MP.get ms k = some v → ∃ e, e ∈ ms ∧ e.1 = k ∧ e.2.1 = v
  | [], k, v, h => by simp [get_nil] at h
  | x :: ms, k, v, h => by
    rw [get_cons] at h
    split at h
    · rename_i hk
      exact ⟨x, by simp, hk.symm, by simpa using h⟩
    · obtain ⟨e, h1, h2, h3⟩ := mem_of_get h
      exact ⟨e, by simp [h1], h2, h3⟩
structure HI (x : HL) (N : Nat) : Prop where
  v : ∀ i, i < 7 → 0 ≤ x.v i ∧ x.v i ≤ 1099511627776
  b : MOK x.bs x.bc
  bk : (x.bs.map (·.1)).Nodup
  bl : x.bs.length ≤ N
  be : ∀ e, e ∈ x.bs → goodT e.2.1 = true ∧ redT e.2.1 = false ∧ e.1 = (e.2.1.rep, e.2.1.n) ∧ e.2.1.user.size ≤ 100000000 ∧ has x.v e.1.1 e.1.2 = true
  u : MOK x.us x.uc
  uk : (x.us.map (·.1)).Nodup
  ul : x.us.length ≤ N
  ue : ∀ e, e ∈ x.us → e.2.1 = true
  d : MOK x.ds x.dc
  dk : (x.ds.map (·.1)).Nodup
  dr : ∀ u, 0 ≤ drawnF x u ∧ drawnF x u ≤ 1125899906842624
  c : MOK x.cs x.cc
  ck : (x.cs.map (·.1)).Nodup
  rl : x.red.length ≤ N
theorem HI.new : HI HL.new 0 where
  v := fun i _ => ⟨Int.le_refl _, by show (0 : Int) ≤ _; omega⟩
  b := MOK.nil 0
  bk := by simp [HL.new]
  bl := Nat.le_refl _
  be := by simp [HL.new]
  u := MOK.nil 0
  uk := by simp [HL.new]
  ul := Nat.le_refl _
  ue := by simp [HL.new]
  d := MOK.nil 0
  dk := by simp [HL.new]
  dr := fun u => ⟨Int.le_refl _, by show (0 : Int) ≤ _; omega⟩
  c := MOK.nil 0
  ck := by simp [HL.new]
  rl := Nat.le_refl _
theorem HI.mono {x : HL} {N M : Nat} (h : HI x N) (hn : N ≤ M) : HI x M :=
  ⟨h.v, h.b, h.bk, Nat.le_trans h.bl hn, h.be, h.u, h.uk, Nat.le_trans h.ul hn, h.ue, h.d, h.dk, h.dr, h.c, h.ck, Nat.le_trans h.rl hn⟩
theorem HI.usr {x : HL} {N : Nat} (h : HI x N) (d : Int × Int) : (usr x.bs d).size ≤ 100000000 := by
  unfold Go.Proofs.usr
  cases hq : MP.get x.bs d with
  | none => show (0 : Nat) ≤ _; omega
  | some s =>
    obtain ⟨e, h1, h2, h3⟩ := mem_of_get hq
    have := (h.be e h1).2.2.2.1
    rw [h3] at this; exact this
theorem blueE_0 {x : HL} {s : ST} (h : blueE x s = 0) : goodT s = true ∧ redT s = false ∧ has x.v s.rep s.n = false ∧ s.n = x.v s.rep.toNat + 1 ∧ leB s.seen x.v = true ∧ s.reds ≤ x.red.length := by
  unfold blueE at h
  cases h1 : goodT s
  · simp [h1] at h
  cases h2 : redT s
  · cases h3 : has x.v s.rep s.n
    · cases h4 : decide (s.n = x.v s.rep.toNat + 1)
      · simp [h1, h2, h3, h4] at h
      · cases h5 : leB s.seen x.v
        · simp [h1, h2, h3, h4, h5] at h
        · cases h6 : decide ((x.red.length : Int) < s.reds)
          · exact ⟨rfl, rfl, rfl, of_decide_eq_true h4, rfl, by have := of_decide_eq_false h6; omega⟩
          · simp [h1, h2, h3, h4, h5, h6] at h
    · simp [h1, h2, h3] at h
  · simp [h1, h2] at h
theorem good_dot {s : ST} (h : goodT s = true) : (0 ≤ s.rep ∧ s.rep < 7) ∧ 1 ≤ s.n ∧ s.n ≤ 1099511627776 := by
  simp only [goodT, headT, isDot, isRep, Bool.and_eq_true, decide_eq_true_eq] at h; omega
theorem hasI {v : Nat → Int} {r n : Int} : has v r n = true ↔ (0 ≤ r ∧ r < 7) ∧ 1 ≤ n ∧ n ≤ v r.toNat := by
  simp [has, isRep]
theorem has_up {v : Nat → Int} {s : ST} (hd : (0 ≤ s.rep ∧ s.rep < 7) ∧ 1 ≤ s.n ∧ s.n ≤ 1099511627776) (hn : s.n = v s.rep.toNat + 1) (r n : Int) : has (upv v s.rep.toNat (v s.rep.toNat + 1)) r n = (has v r n || decide (r = s.rep ∧ n = s.n)) := by
  have h1 : 0 ≤ s.rep := hd.1.1
  have h2 : s.rep < 7 := hd.1.2
  have h3 : 1 ≤ s.n := hd.2.1
  have hiff : has (upv v s.rep.toNat (v s.rep.toNat + 1)) r n = true ↔ (has v r n || decide (r = s.rep ∧ n = s.n)) = true := by
    rw [Bool.or_eq_true, hasI, hasI, decide_eq_true_eq]
    have hu : upv v s.rep.toNat (v s.rep.toNat + 1) r.toNat = if r.toNat = s.rep.toNat then v s.rep.toNat + 1 else v r.toNat := rfl
    rw [hu]
    by_cases hr : r = s.rep
    · rw [hr, if_pos rfl]; omega
    · by_cases h0 : 0 ≤ r
      · rw [if_neg (by omega)]; omega
      · omega
  exact Bool.eq_iff_iff.2 hiff
theorem blueN_0 {x : HL} {s : ST} (hb : blueE x s = 0) : blueN x s = { x with v := upv x.v s.rep.toNat (x.v s.rep.toNat + 1), bs := MP.put x.bs (s.rep, s.n) s x.bc, bc := if (MP.get x.bs (s.rep, s.n)).isSome then x.bc else x.bc + 1 } := by rw [blueN, hb]; rfl
theorem blueN_1 {x : HL} {s : ST} (hb : blueE x s ≠ 0) : blueN x s = x := by rw [blueN, show decide (blueE x s = 0) = false by simpa using hb]; rfl
theorem HI.fresh {x : HL} {N : Nat} (h : HI x N) {r n : Int} (hn : has x.v r n = false) : MP.get x.bs (r, n) = none := by
  cases hq : MP.get x.bs (r, n) with
  | none => rfl
  | some s =>
    obtain ⟨e, h1, h2, h3⟩ := mem_of_get hq
    have := (h.be e h1).2.2.2.2
    rw [h2, hn] at this; cases this
theorem HI.blue {x : HL} {N : Nat} (h : HI x N) {s : ST} (hz : s.user.size ≤ 100000000) : HI (blueN x s) (N + 1) := by
  by_cases hb : blueE x s = 0
  · obtain ⟨g1, g2, g3, g4, g5, g6⟩ := blueE_0 hb
    have hd := good_dot g1
    rw [blueN_0 hb]
    have hf := h.fresh g3
    exact {
      v := fun i hi => by
        show 0 ≤ upv x.v s.rep.toNat (x.v s.rep.toNat + 1) i ∧ upv x.v s.rep.toNat (x.v s.rep.toNat + 1) i ≤ _
        unfold upv
        split
        · omega
        · exact h.v i hi
      b := h.b.put _ _
      bk := nodup_put h.bk _ _ _
      bl := by show (MP.put x.bs (s.rep, s.n) s x.bc).length ≤ _; rw [len_put]; have := h.bl; split <;> omega
      be := fun e he => by
        show _ ∧ _ ∧ _ ∧ _ ∧ has (upv x.v s.rep.toNat (x.v s.rep.toNat + 1)) e.1.1 e.1.2 = true
        rw [has_up hd g4]
        rcases mem_put he with k | ⟨k1, k2⟩
        · obtain ⟨a, b, c, d, f⟩ := h.be e k
          exact ⟨a, b, c, d, by rw [f]; rfl⟩
        · rw [k1, k2]
          exact ⟨g1, g2, rfl, hz, by simp⟩
      u := h.u
      uk := h.uk
      ul := Nat.le_succ_of_le h.ul
      ue := h.ue
      d := h.d
      dk := h.dk
      dr := h.dr
      c := h.c
      ck := h.ck
      rl := Nat.le_succ_of_le h.rl }
  · rw [blueN_1 hb]
    exact h.mono (Nat.le_succ _)
theorem HI.did {x : HL} {N : Nat} (h : HI x N) (s : ST) : HI (x.did s) (N + 1) :=
  ⟨h.v, h.b, h.bk, Nat.le_succ_of_le h.bl, h.be, h.u, h.uk, Nat.le_succ_of_le h.ul, h.ue, h.d, h.dk, h.dr, h.c, h.ck, by show (x.red ++ [s]).length ≤ _; have := h.rl; simp; exact this⟩
theorem doE_0 {x : HL} {s : ST} (h : doE x s = 0) : goodT s = true ∧ redT s = true ∧ gapT x s = false := by
  unfold doE at h
  cases h1 : goodT s <;> cases h2 : redT s <;> cases h3 : gapT x s <;> simp [h1, h2, h3] at h ⊢
theorem good_six {s : ST} (h : goodT s = true) (hk : s.kind = 6) : 1 ≤ s.amount ∧ s.amount ≤ 1000000000 ∧ 0 ≤ s.funds ∧ s.funds ≤ 1125899906842624 := by
  simp [goodT, partT, numB, hk, amntK] at h
  obtain ⟨_, _, _, _, _, _, h1, h2⟩ := h
  omega
theorem HI.red {x : HL} {N : Nat} (h : HI x N) {s : ST} (he : doE x s = 0) : HI (doN x s) (N + 1) := by
  have hg := (doE_0 he).1
  have hd := h.did s
  unfold doN
  by_cases k5 : s.kind = 5
  · rw [show decide (s.kind = 5) = true from decide_eq_true k5]
    exact ⟨hd.v, hd.b, hd.bk, hd.bl, hd.be, h.u.put _ _, nodup_put h.uk _ _ _, by show (MP.put x.us (foldB s.user) true x.uc).length ≤ _; rw [len_put]; have := h.ul; split <;> omega, fun e he => by
      rcases mem_put he with k | ⟨_, k⟩
      · exact h.ue e k
      · exact k, hd.d, hd.dk, hd.dr, hd.c, hd.ck, hd.rl⟩
  rw [show decide (s.kind = 5) = false from decide_eq_false k5]
  by_cases k6 : s.kind = 6
  · rw [show decide (s.kind = 6) = true from decide_eq_true k6]
    have hs := good_six hg k6
    by_cases k7 : s.amount ≤ s.funds - drawnF x (foldB s.user)
    · simp only [cond_false, cond_true, decide_eq_true k7]
      exact ⟨hd.v, hd.b, hd.bk, hd.bl, hd.be, hd.u, hd.uk, hd.ul, hd.ue, h.d.put _ _, nodup_put h.dk _ _ _, fun u => by
        show 0 ≤ (MP.get (MP.put x.ds (foldB s.user) (drawnF x (foldB s.user) + s.amount) x.dc) u).getD 0 ∧ _ ≤ _
        have h1 := h.dr u
        have h2 := h.dr (foldB s.user)
        have heq : drawnF (dsD x s) u = if u = foldB s.user then drawnF x (foldB s.user) + s.amount else drawnF x u := by
          show (MP.get (MP.put x.ds (foldB s.user) (drawnF x (foldB s.user) + s.amount) x.dc) u).getD 0 = _
          rw [get_put]
          split <;> rfl
        show 0 ≤ drawnF (dsD x s) u ∧ drawnF (dsD x s) u ≤ _
        rw [heq]
        split <;> omega, hd.c, hd.ck, hd.rl⟩
    · simp only [cond_false, cond_true, decide_eq_false k7]
      exact hd
  rw [show decide (s.kind = 6) = false from decide_eq_false k6]
  simp only [cond_false]
  cases mayEnd x s
  · exact hd
  · exact ⟨hd.v, hd.b, hd.bk, hd.bl, hd.be, hd.u, hd.uk, hd.ul, hd.ue, hd.d, hd.dk, hd.dr, h.c.put _ _, nodup_put h.ck _ _ _, hd.rl⟩
end Go.Proofs

namespace Go.Proofs
open Go Go.V Go.Lib
set_option maxRecDepth 100000
set_option linter.unusedVariables false

/-! ### Red steps, walked -/
abbrev hoG (x : HL) (rx : List Value) (ro rc : Nat) : List SO := [.cells (vcells x.v ++ [.mp 1, .sl 7 ro x.red.length rc, .mp 2, .mp 3, .mp 4]) T_auct_House,
  .map (ents encD encST x.bs) x.bc, .map (ents encT encB x.us) x.uc, .map (ents encT encN x.ds) x.dc, .map (ents encD encO x.cs) x.cc, .gone]
def DoPost (h : Nat → Option Obj) (x : HL) (rx : List Value) (ro rc : Nat) (s : ST) (r : SV) (H : List SO) : Prop :=
  (doE x s ≠ 0 ∧ r = .tup [bv false, iv (doE x s)] ∧ H = hoH x rx ro rc ++ [.heap h]) ∨
  (doE x s = 0 ∧ r = .tup [bv (doB x s), iv 0] ∧ ∃ rx' ro' rc', RowG stcl 19 rx' ro' rc' (doN x s).red ∧ H = hoG (doN x s) rx' ro' rc' ++ [.heap h, .arr rx' T_auct_Step])
theorem s_Do (h : Nat → Option Obj) (hu : Uni h) (hc : CaseH h) (x : HL) (N : Nat) (hx : HI x N) (hN : N ≤ 1000000) (rx : List Value) (ro rc : Nat) (hr : RowG stcl 19 rx ro rc x.red) (s : ST) (h1 : s.name.size ≤ 4611686018427387904) (h2 : s.user.size ≤ 100000000) :
    Ctr Tryz.prog F_auct_House_Do [.ptr 0 0, .agg (stcells s)] (hoH x rx ro rc ++ [.heap h]) (DoPost h x rx ro rc s) := by
  have fin : ∀ (e : Int) (l : List SO), e ≠ 0 → doE x s = e → VRet 7 (.tup [bv false, iv e]) (hoH x rx ro rc ++ .heap h :: l) (DoPost h x rx ro rc s) := by
    intro e l he hb
    exact VRet.mk [0, 1, 2, 3, 4, 5, 6] (.tup [bv false, iv e]) (hoH x rx ro rc ++ [.heap h]) ⟨rfl, rfl, rfl⟩ (.inl ⟨by rw [hb]; exact he, by rw [hb], rfl⟩)
  have fin2 : ∀ (b : Bool) (x' : HL) (rx' : List Value) (ro' rc' n : Nat) (A B : SO) (l : List SO), doE x s = 0 → doN x s = x' → doB x s = b → x'.red.length = n → RowG stcl 19 rx' ro' rc' x'.red →
      VRet 7 (.tup [bv b, iv 0]) ([.cells (vcells x'.v ++ [.mp 1, .sl 9 ro' n rc', .mp 2, .mp 3, .mp 4]) T_auct_House, .map (ents encD encST x'.bs) x'.bc, .map (ents encT encB x'.us) x'.uc, .map (ents encT encN x'.ds) x'.dc, .map (ents encD encO x'.cs) x'.cc, .gone, .heap h, A, B, .arr rx' T_auct_Step] ++ l) (DoPost h x rx ro rc s) := by
    rintro b x' rx' ro' rc' n A B l he rfl rfl rfl hr'
    exact VRet.mk [0, 1, 2, 3, 4, 5, 6, 9] (.tup [bv (doB x s), iv 0]) (hoG (doN x s) rx' ro' rc' ++ [.heap h, .arr rx' T_auct_Step]) ⟨rfl, rfl, rfl⟩ (.inr ⟨he, rfl, rx', ro', rc', hr', rfl⟩)
  refine i_auct_House_Do.spec follows ?_
  refine VCall.mk [6] (s_Good h hu s h1 (by omega)) ⟨rfl, rfl, rfl⟩ ?_
  rintro _ _ ⟨rfl, rfl⟩
  refine And.intro (fun k1 => ?_) (fun k1 => fin 1 _ (by decide) (by simp at k1; simp [doE, k1]))
  have k1 : goodT s = true := by simpa using k1
  refine VCall.mk [] (s_Red s) ⟨rfl, rfl, rfl⟩ ?_
  rintro _ _ ⟨rfl, rfl⟩
  refine And.intro (fun k2 => fin 1 _ (by decide) (by simp at k2; simp [doE, k2])) (fun k2 => ?_)
  have k2 : redT s = true := by simpa using k2
  refine VCall.mk [] (s_vec_Le s.seen x.v) ⟨rfl, rfl, rfl⟩ ?_
  rintro _ _ ⟨rfl, rfl⟩
  refine And.intro (fun k3 => ?_) (fun k3 => fin 8 _ (by decide) (by have k3 : leB s.seen x.v = false := by simpa using k3
                                                                     rw [doE, gapT, k1, k2, k3]; rfl))
  have k3 : leB s.seen x.v = true := by simpa using k3
  refine And.intro (fun k4 => fin 8 _ (by decide) (by rw [doE, gapT, k1, k2, k3, show decide ((x.red.length : Int) < s.reds) = true from k4]; rfl)) (fun k4 => ?_)
  have he : doE x s = 0 := by rw [doE, gapT, k1, k2, k3, show decide ((x.red.length : Int) < s.reds) = false from k4]; rfl
  have hnb : (x.red.length + 1) * 168 ≤ 1099511627776 := by have := hx.rl; omega
  refine And.intro rfl (And.intro rfl ?_)
  refine And.intro ⟨⟨hr.1, hr.2.1, rfl⟩, ⟨rfl, rfl⟩, hnb⟩ ?_
  intro xs' o' c' hz
  have hr' : RowG stcl 19 xs' o' c' (x.did s).red := RowG.snoc hr rfl hz.1 hz.2.1 hz.2.2
  have hlen : (x.did s).red.length = x.red.length + 1 := by show (x.red ++ [s]).length = _; simp
  refine VCall.mk [6] (s_name_Fold h hc s.user h2) ⟨rfl, rfl, rfl⟩ ?_
  rintro _ _ ⟨rfl, rfl⟩
  refine And.intro (fun k5 => ?_) (fun k5 => ?_)
  · have k5 : s.kind = 5 := of_decide_eq_true k5
    refine Exists.intro (bv ((MP.get x.us (foldB s.user)).getD false)) (Exists.intro _ (Exists.intro _ (And.intro (lookU x.us (foldB s.user)) (And.intro rfl ?_))))
    refine Exists.intro _ (Exists.intro _ (And.intro (update_is (encv := encB) kU x.us x.uc (foldB s.user) true) ?_))
    exact fin2 (!(MP.get x.us (foldB s.user)).getD false) (usD x s) _ _ _ _ _ _ _ he (by simp [doN, k5]) (by simp [doB, k5]) hlen hr'
  have k5 : ¬ s.kind = 5 := of_decide_eq_false k5
  refine And.intro (fun k6 => ?_) (fun k6 => ?_)
  · have k6 : s.kind = 6 := of_decide_eq_true k6
    have hs := good_six k1 k6
    have hd := hx.dr (foldB s.user)
    have hw : IntKind.i64.wrap (s.funds - (MP.get x.ds (foldB s.user)).getD 0) = s.funds - drawnF x (foldB s.user) := wrap64 (by unfold drawnF at hd; omega)
    have hw2 : IntKind.i64.wrap ((MP.get x.ds (foldB s.user)).getD 0 + s.amount) = drawnF x (foldB s.user) + s.amount := wrap64 (by unfold drawnF at hd; omega)
    refine Exists.intro (iv ((MP.get x.ds (foldB s.user)).getD 0)) (Exists.intro _ (Exists.intro _ (And.intro (lookD x.ds (foldB s.user)) (And.intro rfl ?_))))
    refine Exists.intro _ (And.intro hw ?_)
    refine And.intro (fun k7 => ?_) (fun k7 => ?_)
    · have k7 : s.funds - drawnF x (foldB s.user) < s.amount := of_decide_eq_true k7
      have k8 : ¬ s.amount ≤ s.funds - drawnF x (foldB s.user) := by omega
      exact fin2 false (x.did s) _ _ _ _ _ _ _ he (by simp [doN, k5, k6, k8]) (by simp [doB, k5, k6, k8]) hlen hr'
    · have k7 : ¬ s.funds - drawnF x (foldB s.user) < s.amount := of_decide_eq_false k7
      have k8 : s.amount ≤ s.funds - drawnF x (foldB s.user) := by omega
      refine Exists.intro (iv ((MP.get x.ds (foldB s.user)).getD 0)) (Exists.intro _ (Exists.intro _ (And.intro (lookD x.ds (foldB s.user)) (And.intro rfl ?_))))
      refine Exists.intro _ (And.intro hw2 ?_)
      refine Exists.intro _ (Exists.intro _ (And.intro (update_is (encv := encN) kD x.ds x.dc (foldB s.user) (drawnF x (foldB s.user) + s.amount)) ?_))
      exact fin2 true (dsD x s) _ _ _ _ _ _ _ he (by simp [doN, k5, k6, k8]) (by simp [doB, k5, k6, k8]) hlen hr'
  have k6 : ¬ s.kind = 6 := of_decide_eq_false k6
  refine Exists.intro (.agg (occells ((MP.get x.cs (s.ar, s.an)).getD zeroO))) (Exists.intro _ (Exists.intro _ (And.intro (lookC x.cs (s.ar, s.an)) (And.intro rfl ?_))))
  refine And.intro rfl (And.intro rfl (And.intro rfl ?_))
  refine And.intro (Exists.intro (.agg (occells ((MP.get x.cs (s.ar, s.an)).getD zeroO))) (Exists.intro _ (Exists.intro _ (And.intro (lookC x.cs (s.ar, s.an)) (And.intro rfl rfl))))) ?_
  have hdN : ∀ b, mayEnd x s = b → doN x s = bif b then csD x s else x.did s := fun b hb => by simp [doN, k5, k6, hb]
  have hdB : ∀ b, mayEnd x s = b → doB x s = b := fun b hb => by simp [doB, k5, k6, hb]
  have shut : ∀ (A B : SO) (l : List SO), mayEnd x s = false → VRet 7 (.tup [bv false, iv 0]) ([.cells (vcells x.v ++ [.mp 1, .sl 9 o' (x.red.length + 1) c', .mp 2, .mp 3, .mp 4]) T_auct_House, .map (ents encD encST x.bs) x.bc, .map (ents encT encB x.us) x.uc, .map (ents encT encN x.ds) x.dc, .map (ents encD encO x.cs) x.cc, .gone, .heap h, A, B, .arr xs' T_auct_Step] ++ l) (DoPost h x rx ro rc s) :=
    fun A B l hm => fin2 false (x.did s) xs' o' c' _ A B l he (by rw [hdN _ hm]; rfl) (hdB _ hm) hlen hr'
  refine And.intro (fun k7 => ?_) (fun k7 => ?_)
  · refine VCall.mk [] (s_vec_Has s.seen s.ar s.an) ⟨rfl, rfl, rfl⟩ ?_
    rintro _ _ ⟨rfl, rfl⟩
    refine And.intro (fun k8 => ?_) (fun k8 => ?_)
    · have k8 : has s.seen s.ar s.an = true := by simpa using k8
      refine Exists.intro (.agg (stcells ((MP.get x.bs (s.ar, s.an)).getD zeroT'))) (Exists.intro _ (Exists.intro _ (And.intro (lookB x.bs (s.ar, s.an)) (And.intro rfl ?_))))
      refine And.intro (fun k9 => ?_) (fun k9 => ?_)
      · have k9 : ¬ ((MP.get x.bs (s.ar, s.an)).getD zeroT').kind = 1 := by simpa using k9
        exact shut _ _ _ (by simp [mayEnd, k9])
      · have k9 : ((MP.get x.bs (s.ar, s.an)).getD zeroT').kind = 1 := by simpa using k9
        have hm : mayEnd x s = true := by simp [mayEnd, k7, k8, k9]
        have hE := s_ends h hc (x.did s) hx.usr hx.b hx.bk (by have := hx.bl; show x.bs.length ≤ _; omega) xs' o' c' s
        simp only [hoH, hlen] at hE
        refine VCall.mk [0, 1, 2, 3, 4, 9, 6] hE ⟨rfl, rfl, rfl⟩ ?_
        rintro _ _ ⟨o, hO, rfl, rfl⟩
        have hO := hO.eq hx.bk
        subst hO
        refine And.intro rfl (And.intro rfl (And.intro rfl ?_))
        refine Exists.intro _ (Exists.intro _ (And.intro (update_is (encv := encO) kC x.cs x.cc (s.ar, s.an) (outF x s)) ?_))
        exact fin2 true (csD x s) xs' o' c' _ _ _ _ he (by rw [hdN _ hm]; rfl) (hdB _ hm) hlen hr'
    · have k8 : has s.seen s.ar s.an = false := by simpa using k8
      exact shut _ _ _ (by simp [mayEnd, k8])
  · exact shut _ _ _ (by simp [mayEnd, k7])
end Go.Proofs

namespace Go.Proofs
open Go Go.V Go.Lib
set_option maxRecDepth 100000
set_option linter.unusedVariables false

/-! ### What a house tells -/
def openF (x : HL) (a : Int × Int) : Bool := decide (((MP.get x.bs a).getD zeroT').kind = 1) && !(MP.get x.cs a).isSome
theorem s_Open (x : HL) (rx : List Value) (ro rc : Nat) (a : Int × Int) : Ctr Tryz.prog F_auct_House_Open [.ptr 0 0, .agg (dcells a.1 a.2)] (hoH x rx ro rc) (fun r H => r = bv (openF x a) ∧ H = hoH x rx ro rc) := by
  refine i_auct_House_Open.spec follows ?_
  refine Exists.intro (.agg (occells ((MP.get x.cs (a.1, a.2)).getD zeroO))) (Exists.intro _ (Exists.intro _ (And.intro (lookC x.cs (a.1, a.2)) (And.intro rfl ?_))))
  refine And.intro rfl (And.intro rfl (And.intro rfl ?_))
  refine And.intro (Exists.intro (.agg (occells ((MP.get x.cs (a.1, a.2)).getD zeroO))) (Exists.intro _ (Exists.intro _ (And.intro (lookC x.cs (a.1, a.2)) (And.intro rfl rfl))))) ?_
  refine Exists.intro (.agg (stcells ((MP.get x.bs (a.1, a.2)).getD zeroT'))) (Exists.intro _ (Exists.intro _ (And.intro (lookB x.bs (a.1, a.2)) (And.intro rfl ?_))))
  have fin : ∀ (b : Bool) (l : List SO), b = openF x a → VRet 6 (bv b) (hoH x rx ro rc ++ l) (fun r H => r = bv (openF x a) ∧ H = hoH x rx ro rc) := by
    rintro b l rfl
    exact VRet.mk [0, 1, 2, 3, 4, 5] _ (hoH x rx ro rc) ⟨rfl, rfl, rfl⟩ ⟨rfl, rfl⟩
  refine And.intro (fun k => ?_) (fun k => ?_)
  · exact fin _ _ (by show _ = (decide (((MP.get x.bs (a.1, a.2)).getD zeroT').kind = 1) && !(MP.get x.cs (a.1, a.2)).isSome); rw [k]; rfl)
  · exact fin _ _ (by show _ = (decide (((MP.get x.bs (a.1, a.2)).getD zeroT').kind = 1) && !(MP.get x.cs (a.1, a.2)).isSome); rw [k]; rfl)

theorem s_Reds (x : HL) (rx : List Value) (ro rc : Nat) : Ctr Tryz.prog F_auct_House_Reds [.ptr 0 0] (hoH x rx ro rc) (fun r H => r = iv x.red.length ∧ H = hoH x rx ro rc) := by
  refine i_auct_House_Reds.spec follows ?_
  exact VRet.mk [0, 1, 2, 3, 4, 5] (iv x.red.length) (hoH x rx ro rc) ⟨rfl, rfl, rfl⟩ ⟨rfl, rfl⟩
theorem s_Have (x : HL) (rx : List Value) (ro rc : Nat) : Ctr Tryz.prog F_auct_House_Have [.ptr 0 0] (hoH x rx ro rc) (fun r H => r = .agg (vcells x.v) ∧ H = hoH x rx ro rc) := by
  refine i_auct_House_Have.spec follows ?_
  exact VRet.mk [0, 1, 2, 3, 4, 5] (.agg (vcells x.v)) (hoH x rx ro rc) ⟨rfl, rfl, rfl⟩ ⟨rfl, rfl⟩
theorem s_Bids (x : HL) (hok : MOK x.bs x.bc) (hnd : (x.bs.map (·.1)).Nodup) (hb : x.bs.length ≤ 1000000) (rx : List Value) (ro rc : Nat) (a : Int × Int) :
    Ctr Tryz.prog F_auct_House_Bids [.ptr 0 0, .agg (dcells a.1 a.2)] (hoH x rx ro rc)
      (fun r H => ∃ xs o c, r = .sl 6 o (bidsF x.bs a x.v).length c ∧ H = hoH x rx ro rc ++ [.arr xs T_api_Dot] ∧ RowG dcl 2 xs o c (bidsF x.bs a x.v) ∧ (bidsF x.bs a x.v).length ≤ x.bs.length) := by
  refine i_auct_House_Bids.spec follows ?_
  refine VCall.mk [0, 1, 2, 3, 4, 5] (s_bids x hok hnd hb rx ro rc (a.1, a.2) x.v) ⟨rfl, rfl, rfl⟩ ?_
  rintro _ _ ⟨l, xs, o, c, rfl, rfl, hr, hL, hll⟩
  have hl := hL.eq hnd
  subst hl
  exact VRet.mk [0, 1, 2, 3, 4, 5, 7] (.sl 6 o (bidsF x.bs a x.v).length c) (hoH x rx ro rc ++ [.arr xs T_api_Dot]) ⟨rfl, rfl, rfl⟩ ⟨xs, o, c, rfl, rfl, hr, hll⟩
end Go.Proofs

namespace Go.Proofs
open Go Go.V Go.Lib
set_option maxRecDepth 100000
set_option linter.unusedVariables false

theorem strB {a b : ByteArray} : (a.toList == b.toList) = decide (a = b) := by
  rw [ByteArray.toList_eq, ByteArray.toList_eq]
  apply Bool.eq_iff_iff.2
  rw [beq_iff_eq, decide_eq_true_eq]
  constructor
  · intro h
    cases a with | mk a => cases b with | mk b =>
      congr 1
      exact Array.toList_inj.1 h
  · intro h; rw [h]
/-! ### What was deposited -/
def depE (f : ByteArray) (e : (Int × Int) × ST × Nat) : Bool := decide (e.2.1.kind = 4) && decide (foldB e.2.1.user = f)
def depS (f : ByteArray) : MB → Int
  | [] => 0
  | e :: l => (bif depE f e then e.2.1.amount else 0) + depS f l
theorem depS_app (f : ByteArray) : ∀ (l m : MB), depS f (l ++ m) = depS f l + depS f m
  | [], m => by simp [depS]
  | e :: l, m => by simp only [List.cons_append, depS, depS_app f l m]; omega
theorem depS_perm (f : ByteArray) {l m : MB} (h : l.Perm m) : depS f l = depS f m := by
  induction h with
  | nil => rfl
  | cons x h ih => simp only [depS, ih]
  | swap x y l => simp only [depS]; omega
  | trans h1 h2 i1 i2 => rw [i1, i2]
theorem depS_nn (f : ByteArray) : ∀ {l : MB}, (∀ e, e ∈ l → goodT e.2.1 = true) → 0 ≤ depS f l
  | [], _ => Int.le_refl _
  | e :: l, h => by
    have h1 := depS_nn f (l := l) (fun e he => h e (by simp [he]))
    simp only [depS]
    cases hq : depE f e
    · simpa using h1
    · have hk : e.2.1.kind = 4 := by simp [depE] at hq; exact hq.1
      have hg := h e (by simp)
      have : 1 ≤ e.2.1.amount := by
        simp [goodT, partT, numB, hk, amntK] at hg
        omega
      simp only [cond_true]; omega
def depF (x : HL) (u : ByteArray) : Int := min (depS (foldB u) x.bs) 1125899906842624
theorem good_four {s : ST} (h : goodT s = true) (hk : s.kind = 4) : 1 ≤ s.amount ∧ s.amount ≤ 1000000000 := by
  simp [goodT, partT, numB, hk, amntK] at h
  omega
structure DPX where
  pre : MB
  seen : List Nat
theorem s_Deposited (h : Nat → Option Obj) (hc : CaseH h) (x : HL) (N : Nat) (hx : HI x N) (rx : List Value) (ro rc : Nat) (u : ByteArray) (hu : u.size ≤ 100000000) :
    Ctr Tryz.prog F_auct_House_Deposited [.ptr 0 0, .raw (.string u)] (hoH x rx ro rc ++ [.heap h]) (fun r H => r = iv (depF x u) ∧ H = hoH x rx ro rc ++ [.heap h]) := by
  refine i_auct_House_Deposited.spec follows ?_
  refine VLoop.mk DPX (fun y => [(1, .raw (.string u)), (5, iv (min (depS (foldB u) y.pre) 1125899906842624)), (12, .ptr 7 0)]) (fun y => hoH x rx ro rc ++ [.heap h, .iter (some 1) x.bc y.seen x.bc]) (fun y => Been x.bs y.pre y.seen) (fun y => x.bs.length - y.pre.length) ⟨[], []⟩ [0, 1, 2, 3, 4, 5, 6, 7]
    ⟨Been.nil _, rfl, rfl, rfl⟩ ?_
  rintro ⟨pre, seen⟩ h1 g
  simp only at h1
  refine And.intro ⟨fun e he => ?_, Nat.le_refl _⟩ (And.intro (fun hall => ?_) (fun e he hns => ?_))
  · obtain ⟨y, hy, rfl⟩ := List.mem_map.1 he
    exact hx.b.1 y hy
  · have hsub : ∀ y, y ∈ x.bs → y ∈ pre := fun y hy => h1.all hx.b.2 hy (hall _ (List.mem_map.2 ⟨y, hy, rfl⟩))
    have hpn : pre.Nodup := by have := h1.nd; rw [h1.eq] at this; exact nodup_of_map _ this
    have hp : pre.Perm x.bs := (List.perm_ext_iff_of_nodup hpn (nodup_of_map _ hx.bk)).2 fun a => ⟨h1.sub a, hsub a⟩
    have hd : depS (foldB u) pre = depS (foldB u) x.bs := depS_perm _ hp
    exact VRet.mk [0, 1, 2, 3, 4, 5, 6] (iv (min (depS (foldB u) pre) 1125899906842624)) (hoH x rx ro rc ++ [.heap h]) ⟨rfl, rfl, rfl⟩ ⟨by rw [hd]; rfl, rfl⟩
  · obtain ⟨y, hy, rfl⟩ := List.mem_map.1 he
    have hns : y.2.2 ∉ seen := hns
    have hlen : x.bs.length - (pre ++ [y]).length < x.bs.length - pre.length := by classical exact h1.len hy hns
    have hmore := h1.more hy hns
    have hbe := hx.be y hy
    have hnn : 0 ≤ depS (foldB u) pre := depS_nn _ fun e he => (hx.be e (h1.sub e he)).1
    refine Exists.intro y.2.2 (Exists.intro (ent encD encST y) (And.intro (last_snoc _ _) (And.intro (find_ents hx.b.2 hy) (And.intro rfl ?_))))
    have skip : depE (foldB u) y = false → depS (foldB u) (pre ++ [y]) = depS (foldB u) pre := fun hq => by rw [depS_app]; simp [depS, hq]
    refine And.intro (fun k1 => ?_) (fun k1 => ?_)
    · have k1 : y.2.1.kind = 4 := of_decide_eq_true k1
      refine VCall.mk [6] (s_name_Fold h hc y.2.1.user hbe.2.2.2.1) ⟨rfl, rfl, rfl⟩ ?_
      rintro _ _ ⟨rfl, rfl⟩
      refine VCall.mk [6] (s_name_Fold h hc u hu) ⟨rfl, rfl, rfl⟩ ?_
      rintro _ _ ⟨rfl, rfl⟩
      have hs4 := good_four hbe.1 k1
      have hnn2 : min (depS (foldB u) pre) 1125899906842624 ≤ 1125899906842624 := Int.min_le_right _ _
      have hnn3 : 0 ≤ min (depS (foldB u) pre) 1125899906842624 := by omega
      refine And.intro (fun k2 => ?_) (fun k2 => ?_)
      · rw [strB] at k2
        have k2 : foldB y.2.1.user = foldB u := of_decide_eq_true k2
        have hq : depE (foldB u) y = true := by simp [depE, k1, k2]
        have hS : depS (foldB u) (pre ++ [y]) = depS (foldB u) pre + y.2.1.amount := by rw [depS_app]; simp [depS, hq]
        have hw : IntKind.i64.wrap (min (depS (foldB u) pre) 1125899906842624 + y.2.1.amount) = min (depS (foldB u) pre) 1125899906842624 + y.2.1.amount := wrap64 (by omega)
        refine Exists.intro _ (And.intro hw ?_)
        have e : (if 1125899906842624 < min (depS (foldB u) pre) 1125899906842624 + y.2.1.amount then 1125899906842624 else min (depS (foldB u) pre) 1125899906842624 + y.2.1.amount) = min (depS (foldB u) (pre ++ [y])) 1125899906842624 := by
          rw [hS]
          split <;> omega
        exact Exists.intro ⟨pre ++ [y], seen ++ [y.2.2]⟩ (Exists.intro [0, 1, 2, 3, 4, 5, 6, 7] (And.intro ⟨hmore, hlen⟩ ⟨by simp only [← e]; rfl, rfl, rfl⟩))
      · rw [strB] at k2
        have k2 : ¬ foldB y.2.1.user = foldB u := of_decide_eq_false k2
        exact Exists.intro ⟨pre ++ [y], seen ++ [y.2.2]⟩ (Exists.intro [0, 1, 2, 3, 4, 5, 6, 7] (And.intro ⟨hmore, hlen⟩ ⟨by simp only [skip (show depE (foldB u) y = false by simp [depE, k2])]; rfl, rfl, rfl⟩))
    · have k1 : ¬ y.2.1.kind = 4 := of_decide_eq_false k1
      exact Exists.intro ⟨pre ++ [y], seen ++ [y.2.2]⟩ (Exists.intro [0, 1, 2, 3, 4, 5, 6, 7] (And.intro ⟨hmore, hlen⟩ ⟨by simp only [skip (show depE (foldB u) y = false by simp [depE, k1])]; rfl, rfl, rfl⟩))
theorem s_Balance (h : Nat → Option Obj) (hc : CaseH h) (x : HL) (N : Nat) (hx : HI x N) (rx : List Value) (ro rc : Nat) (u : ByteArray) (hu : u.size ≤ 100000000) :
    Ctr Tryz.prog F_auct_House_Balance [.ptr 0 0, .raw (.string u)] (hoH x rx ro rc ++ [.heap h]) (fun r H => r = iv (depF x u - drawnF x (foldB u)) ∧ H = hoH x rx ro rc ++ [.heap h]) := by
  refine i_auct_House_Balance.spec follows ?_
  refine VCall.mk [0, 1, 2, 3, 4, 5, 6] (s_Deposited h hc x N hx rx ro rc u hu) ⟨rfl, rfl, rfl⟩ ?_
  rintro _ _ ⟨rfl, rfl⟩
  refine And.intro rfl (And.intro rfl ?_)
  refine VCall.mk [6] (s_name_Fold h hc u hu) ⟨rfl, rfl, rfl⟩ ?_
  rintro _ _ ⟨rfl, rfl⟩
  refine And.intro rfl (And.intro rfl ?_)
  have hd := hx.dr (foldB u)
  have hdp : 0 ≤ depF x u ∧ depF x u ≤ 1125899906842624 := by
    have h1 : 0 ≤ depS (foldB u) x.bs := depS_nn _ fun e he => (hx.be e he).1
    unfold depF; omega
  have hw : IntKind.i64.wrap (depF x u - (MP.get x.ds (foldB u)).getD 0) = depF x u - drawnF x (foldB u) := wrap64 (by unfold drawnF at hd; omega)
  refine Exists.intro (iv ((MP.get x.ds (foldB u)).getD 0)) (Exists.intro _ (Exists.intro _ (And.intro (lookD x.ds (foldB u)) (And.intro rfl ?_))))
  refine Exists.intro _ (And.intro hw ?_)
  exact VRet.mk [0, 1, 2, 3, 4, 5, 6] (iv (depF x u - drawnF x (foldB u))) (hoH x rx ro rc ++ [.heap h]) ⟨rfl, rfl, rfl⟩ ⟨rfl, rfl⟩
/-! ### All auctions -/
def opE (e : (Int × Int) × ST × Nat) : Bool := decide (e.2.1.kind = 1)
def aucF (x : HL) : List (Int × Int) := sortD ((x.bs.filter opE).map (·.1))
theorem cmp_srt {d l : List (Int × Int)} (hn : l.Nodup) (hp : d.Perm l) (hs : d.Pairwise fun a b => ¬ cmpD b a < 0) : d = sortD l := by
  have hnd : d.Nodup := hp.nodup_iff.2 hn
  refine srt_ext ?_ (srt_sortD hn) fun x => by rw [mem_sortD, hp.mem_iff]
  refine List.Pairwise.imp_of_mem ?_ (List.pairwise_and_iff.2 ⟨hs, hnd⟩)
  rintro ⟨a1, a2⟩ ⟨b1, b2⟩ _ _ ⟨h1, h2⟩
  rw [cmpD_lt] at h1
  unfold ltDD
  simp only [ne_eq, Prod.mk.injEq] at h1 h2 ⊢
  omega
structure AUX where
  pre : MB
  seen : List Nat
  l : List (Int × Int)
  n : Nat
  xs : List Value
  o : Nat
  c : Nat
structure AUI (bs : MB) (y : AUX) : Prop where
  been : Been bs y.pre y.seen
  hn : y.n = y.l.length
  row : RowG dcl 2 y.xs y.o y.c y.l
  hl : y.l = (y.pre.filter opE).map (·.1)
theorem s_Auctions (x : HL) (N : Nat) (hx : HI x N) (hN : N ≤ 1000000) (rx : List Value) (ro rc : Nat) :
    Ctr Tryz.prog F_auct_House_Auctions [.ptr 0 0] (hoH x rx ro rc)
      (fun r H => ∃ xs o c, r = .sl 6 o (aucF x).length c ∧ H = hoH x rx ro rc ++ [.arr xs T_api_Dot] ∧ RowG dcl 2 xs o c (aucF x) ∧ (aucF x).length ≤ N) := by
  have hxl := hx.bl
  refine i_auct_House_Auctions.spec follows ?_
  refine VLoop.nil T_api_Dot [3] [] ⟨rfl, rfl⟩ ?_
  refine VLoop.mk AUX (fun y => [(3, .sl 7 y.o y.n y.c), (10, .ptr 6 0)]) (fun y => hoH x rx ro rc ++ [.iter (some 1) x.bc y.seen x.bc, .arr y.xs T_api_Dot]) (AUI x.bs) (fun y => x.bs.length - y.pre.length) ⟨[], [], [], 0, [], 0, 0⟩ [0, 1, 2, 3, 4, 5, 6, 7]
    ⟨⟨Been.nil _, rfl, ⟨Nat.le_refl _, by simp, by simp⟩, rfl⟩, rfl, rfl, rfl⟩ ?_
  rintro ⟨pre, seen, l, n, xs, o, c⟩ ⟨h1, hn, hr, hl⟩ g
  simp only at h1 hn hr hl
  refine And.intro ⟨fun e he => ?_, Nat.le_refl _⟩ (And.intro (fun hall => ?_) (fun e he hns => ?_))
  · obtain ⟨y, hy, rfl⟩ := List.mem_map.1 he
    exact hx.b.1 y hy
  · have hsub : ∀ y, y ∈ x.bs → y ∈ pre := fun y hy => h1.all hx.b.2 hy (hall _ (List.mem_map.2 ⟨y, hy, rfl⟩))
    have hpn : pre.Nodup := by have := h1.nd; rw [h1.eq] at this; exact nodup_of_map _ this
    have hp : pre.Perm x.bs := (List.perm_ext_iff_of_nodup hpn (nodup_of_map _ hx.bk)).2 fun a => ⟨h1.sub a, hsub a⟩
    have hpl := hp.length_eq
    have hll : l.length ≤ pre.length := by rw [hl, List.length_map]; exact List.length_filter_le _ _
    subst hn
    refine VCall.mk [7] (s_SortFunc l xs o c hr (by omega)) ⟨rfl, rfl, rfl⟩ ?_
    rintro _ _ ⟨d', xs', rfl, rfl, hp', hs, hr'⟩
    have hdl := hp'.length_eq
    have hbn : ((x.bs.filter opE).map (·.1)).Nodup := List.Sublist.nodup (List.Sublist.map _ List.filter_sublist) hx.bk
    have hd : d' = aucF x := cmp_srt hbn (hp'.trans (hl ▸ ((hp.filter _).map _))) hs
    subst hd
    have hlen2 : (aucF x).length ≤ N := by omega
    rw [← hdl]
    exact VRet.mk [0, 1, 2, 3, 4, 5, 7] (.sl 6 o (aucF x).length c) (hoH x rx ro rc ++ [.arr xs' T_api_Dot]) ⟨rfl, rfl, rfl⟩ ⟨xs', o, c, rfl, rfl, hr', hlen2⟩
  · obtain ⟨y, hy, rfl⟩ := List.mem_map.1 he
    have hns : y.2.2 ∉ seen := hns
    have hlen : x.bs.length - (pre ++ [y]).length < x.bs.length - pre.length := by classical exact h1.len hy hns
    have hmore := h1.more hy hns
    have hf : ∀ {b : Bool}, opE y = b → ((pre ++ [y]).filter opE).map (·.1) = bif b then (pre.filter opE).map (·.1) ++ [y.1] else (pre.filter opE).map (·.1) := by
      rintro b rfl
      rw [List.filter_append, List.map_append]
      cases hq : opE y <;> simp [hq]
    refine Exists.intro y.2.2 (Exists.intro (ent encD encST y) (And.intro (last_snoc _ _) (And.intro (find_ents hx.b.2 hy) (And.intro rfl ?_))))
    refine And.intro (fun k1 => ?_) (fun k1 => ?_)
    · have hnb : (n + 1) * 16 ≤ 1099511627776 := by
        have h3 : l.length ≤ pre.length := by rw [hl, List.length_map]; exact List.length_filter_le _ _
        omega
      refine And.intro ⟨⟨by rw [hn]; exact hr.1, hr.2.1, rfl⟩, ⟨rfl, rfl⟩, hnb⟩ ?_
      intro xs' o' c' hz
      exact Exists.intro ⟨pre ++ [y], seen ++ [y.2.2], l ++ [y.1], n + 1, xs', o', c'⟩ (Exists.intro [0, 1, 2, 3, 4, 5, 6, 11] (And.intro ⟨⟨hmore, by simp only; rw [hn, List.length_append]; rfl, RowG.snoc hr hn hz.1 hz.2.1 hz.2.2, by rw [hf (b := true) k1, hl]; rfl⟩, hlen⟩ ⟨rfl, rfl, rfl⟩))
    · exact Exists.intro ⟨pre ++ [y], seen ++ [y.2.2], l, n, xs, o, c⟩ (Exists.intro [0, 1, 2, 3, 4, 5, 6, 7] (And.intro ⟨⟨hmore, hn, hr, by rw [hf (b := false) k1]; exact hl⟩, hlen⟩ ⟨rfl, rfl, rfl⟩))
end Go.Proofs

namespace Go.Proofs
open Go Go.V Go.Lib
set_option maxRecDepth 100000
set_option linter.unusedVariables false

/-! ### Who is registered -/
abbrev kcl (e : ByteArray × Bool × Nat) : List Value := [.string e.1]
abbrev ktx (e : ByteArray × Bool × Nat) : List UInt8 := e.1.data.toList
abbrev scl : List UInt8 → List Value := Go.V.stcl
theorem kcl_st (l : MU) : l.flatMap kcl = (l.map ktx).flatMap scl := by
  induction l with
  | nil => rfl
  | cons e l ih => rw [List.flatMap_cons, List.map_cons, List.flatMap_cons, ih]
theorem s_SortS (d : List (List UInt8)) (xs : List Value) (o c : Nat) (hr : RowG scl 1 xs o c d) (hl : d.length ≤ 1000000) :
    Ctr Tryz.prog F_slices_Sort_sl_string_string [.sl 0 o d.length c] [.arr xs T_string] (fun x H => ∃ xs', x = .tup [] ∧ H = [.arr xs' T_string] ∧ RowG scl 1 xs' o c (d.mergeSort fun x y => decide (x ≤ y))) := by
  obtain ⟨h1, h2, h3⟩ := hr
  rw [Nat.mul_one] at h3
  have h := sortS_ctr Tryz.laysSort (H := [.arr xs T_string]) (j := 0) (off := o) (cap := c) (xs := xs) (e := T_string) rfl d h3 (by omega) (by omega)
  refine Ctr.weak h ?_
  rintro v H' ⟨rfl, rfl⟩
  have hm : (d.mergeSort fun x y => decide (x ≤ y)).length = d.length := List.length_mergeSort _
  have hf : ((d.mergeSort fun x y => decide (x ≤ y)).flatMap Go.V.stcl).length = d.length := by rw [flatMap_len (f := Go.V.stcl) (k := 1) (fun _ => rfl), hm]; omega
  refine ⟨_, rfl, rfl, by rw [hm]; exact h1, by rw [rowSet_len (by omega)]; exact h2, ?_⟩
  rw [hm, Nat.mul_one, ← hf]; exact rowSet_cut (by omega)
structure USX where
  pre : MU
  seen : List Nat
  n : Nat
  xs : List Value
  o : Nat
  c : Nat
/-- The names, sorted. -/
def UsL (us : MU) (d : List (List UInt8)) : Prop := d.Perm (us.map ktx) ∧ d.Pairwise fun a b => a ≤ b
theorem s_Users (x : HL) (N : Nat) (hx : HI x N) (hN : N ≤ 1000000) (rx : List Value) (ro rc : Nat) :
    Ctr Tryz.prog F_auct_House_Users [.ptr 0 0] (hoH x rx ro rc)
      (fun r H => ∃ d xs o c, UsL x.us d ∧ r = .sl 6 o x.us.length c ∧ H = hoH x rx ro rc ++ [.arr xs T_string] ∧ RowG scl 1 xs o c d) := by
  have hxl := hx.ul
  refine i_auct_House_Users.spec follows ?_
  refine VLoop.nil T_string [3] [] ⟨rfl, rfl⟩ ?_
  refine VLoop.mk USX (fun y => [(3, .sl 7 y.o y.n y.c), (9, .ptr 6 0)]) (fun y => hoH x rx ro rc ++ [.iter (some 2) x.uc y.seen x.uc, .arr y.xs T_string]) (fun y => Been x.us y.pre y.seen ∧ y.n = y.pre.length ∧ RowG kcl 1 y.xs y.o y.c y.pre) (fun y => x.us.length - y.pre.length) ⟨[], [], 0, [], 0, 0⟩ [0, 1, 2, 3, 4, 5, 6, 7]
    ⟨⟨Been.nil _, rfl, ⟨Nat.le_refl _, by simp, by simp⟩⟩, rfl, rfl, rfl⟩ ?_
  rintro ⟨pre, seen, n, xs, o, c⟩ ⟨h1, hn, hr⟩ g
  simp only at h1 hn hr
  refine And.intro ⟨fun e he => ?_, Nat.le_refl _⟩ (And.intro (fun hall => ?_) (fun e he hns => ?_))
  · obtain ⟨y, hy, rfl⟩ := List.mem_map.1 he
    exact hx.u.1 y hy
  · have hsub : ∀ y, y ∈ x.us → y ∈ pre := fun y hy => h1.all hx.u.2 hy (hall _ (List.mem_map.2 ⟨y, hy, rfl⟩))
    have hpn : pre.Nodup := by have := h1.nd; rw [h1.eq] at this; exact nodup_of_map _ this
    have hp : pre.Perm x.us := (List.perm_ext_iff_of_nodup hpn (nodup_of_map _ hx.uk)).2 fun a => ⟨h1.sub a, hsub a⟩
    have hpl := hp.length_eq
    have hr2 : RowG scl 1 xs o c (pre.map ktx) := by
      refine ⟨by rw [List.length_map]; exact hr.1, hr.2.1, ?_⟩
      rw [List.length_map, ← kcl_st]; exact hr.2.2
    subst hn
    have hS := s_SortS (pre.map ktx) xs o c hr2 (by rw [List.length_map]; omega)
    rw [List.length_map] at hS
    refine VCall.mk [7] hS ⟨rfl, rfl, rfl⟩ ?_
    rintro _ _ ⟨xs', rfl, rfl, hr'⟩
    have hU : UsL x.us ((pre.map ktx).mergeSort fun x y => decide (x ≤ y)) := by
      refine ⟨(List.mergeSort_perm _ _).trans (hp.map _), ?_⟩
      have := List.pairwise_mergeSort (le := fun x y : List UInt8 => decide (x ≤ y)) (fun a b c h1 h2 => by
        simp only [decide_eq_true_eq] at h1 h2 ⊢
        exact List.le_trans h1 h2) (fun a b => by
        simp only [Bool.or_eq_true, decide_eq_true_eq]
        exact List.le_total a b) (pre.map ktx)
      exact this.imp fun h => by simpa using h
    rw [hpl]
    exact VRet.mk [0, 1, 2, 3, 4, 5, 7] (.sl 6 o x.us.length c) (hoH x rx ro rc ++ [.arr xs' T_string]) ⟨rfl, rfl, rfl⟩ ⟨_, xs', o, c, hU, rfl, rfl, hr'⟩
  · obtain ⟨y, hy, rfl⟩ := List.mem_map.1 he
    have hns : y.2.2 ∉ seen := hns
    have hlen : x.us.length - (pre ++ [y]).length < x.us.length - pre.length := h1.len hy hns
    have hmore := h1.more hy hns
    refine Exists.intro y.2.2 (Exists.intro (ent encT encB y) (And.intro (last_snoc _ _) (And.intro (find_ents hx.u.2 hy) (And.intro rfl ?_))))
    have hnb : (n + 1) * 16 ≤ 1099511627776 := by omega
    refine And.intro ⟨⟨by rw [hn]; exact hr.1, hr.2.1, rfl⟩, ⟨rfl, rfl⟩, hnb⟩ ?_
    intro xs' o' c' hz
    exact Exists.intro ⟨pre ++ [y], seen ++ [y.2.2], n + 1, xs', o', c'⟩ (Exists.intro [0, 1, 2, 3, 4, 5, 6, 9] (And.intro ⟨⟨hmore, by simp only; rw [hn, List.length_append]; rfl, RowG.snoc hr hn hz.1 hz.2.1 hz.2.2⟩, hlen⟩ ⟨rfl, rfl, rfl⟩))
end Go.Proofs

namespace Go.Proofs
open Go Go.V Go.Lib
set_option maxRecDepth 100000
set_option linter.unusedVariables false

/-! ### The document's own folded names -/
theorem enc_rune (r : Int) : (Utf8.encode r).data.toList = encodeRune r := by
  by_cases h0 : 0 ≤ r
  · obtain ⟨n, rfl⟩ := Int.eq_ofNat_of_zero_le h0
    by_cases c1 : n < 128
    · have v : Utf8.valid (n : Int) = true := by simp [Utf8.valid]; omega
      rw [encodeRune, encodeRuneZ_one (by omega) (by omega)]
      simp [Utf8.encode, v, c1]
    · by_cases c2 : n < 2048
      · have v : Utf8.valid (n : Int) = true := by simp [Utf8.valid]; omega
        rw [encodeRune, encodeRuneZ_two (by omega) (by omega)]
        simp only [Utf8.encode, v, c1, c2, if_true, if_false, List.map_cons, List.map_nil, Int.toNat_natCast]
        rw [show (192 + (n : Int) / 64).toNat = 192 + n / 64 by omega, show (128 + (n : Int) % 64).toNat = 128 + n % 64 by omega]
      · by_cases hb : (55296 ≤ n ∧ n ≤ 57343) ∨ 1114111 < n
        · have v : Utf8.valid (n : Int) = false := by simp [Utf8.valid]; omega
          rw [encodeRune, encodeRuneZ_bad (by omega)]
          simp [Utf8.encode, v, Utf8.runeError]
        · by_cases c3 : n < 65536
          · have v : Utf8.valid (n : Int) = true := by simp [Utf8.valid]; omega
            rw [encodeRune, encodeRuneZ_three (by omega)]
            simp only [Utf8.encode, v, c1, c2, c3, if_true, if_false, List.map_cons, List.map_nil, Int.toNat_natCast]
            rw [show (224 + (n : Int) / 4096).toNat = 224 + n / 4096 by omega, show (128 + (n : Int) / 64 % 64).toNat = 128 + n / 64 % 64 by omega, show (128 + (n : Int) % 64).toNat = 128 + n % 64 by omega]
          · have v : Utf8.valid (n : Int) = true := by simp [Utf8.valid]; omega
            rw [encodeRune, encodeRuneZ_four (by omega) (by omega)]
            simp only [Utf8.encode, v, c1, c2, c3, if_true, if_false, List.map_cons, List.map_nil, Int.toNat_natCast]
            rw [show (240 + (n : Int) / 262144).toNat = 240 + n / 262144 by omega, show (128 + (n : Int) / 4096 % 64).toNat = 128 + n / 4096 % 64 by omega, show (128 + (n : Int) / 64 % 64).toNat = 128 + n / 64 % 64 by omega, show (128 + (n : Int) % 64).toNat = 128 + n % 64 by omega]
  · have v : Utf8.valid r = false := by simp [Utf8.valid]; omega
    rw [encodeRune, encodeRuneZ_bad (by omega)]
    simp [Utf8.encode, v, Utf8.runeError]
theorem runes_fold : ∀ (ns : List Int) (b : ByteArray), (ns.foldl (fun r n => r ++ Utf8.encode n) b).data.toList = b.data.toList ++ ns.flatMap encodeRune
  | [], b => by simp
  | n :: ns, b => by
    rw [List.foldl_cons, runes_fold ns, List.flatMap_cons]
    rw [show (b ++ Utf8.encode n).data.toList = b.data.toList ++ (Utf8.encode n).data.toList by simp, enc_rune, List.append_assoc]
theorem runes_bytes (ns : List Int) : runesBytes ns = ⟨(ns.flatMap encodeRune).toArray⟩ := by
  have h := runes_fold ns ByteArray.empty
  have h2 : (runesBytes ns).data.toList = ns.flatMap encodeRune := h.trans (by simp)
  cases hq : runesBytes ns with | mk a =>
    rw [hq] at h2
    congr 1
    rw [← h2]
def lowL (D : List (Nat × Nat × Nat)) : List Int := D.map fun e => toLowerU (e.2.1 : Int)
theorem fold_runes (s : ByteArray) : runesBytes (lowL (rl s)) = foldB s := by
  rw [runes_bytes, foldB, foldD, lowL, List.flatMap_map]
def icl (n : Int) : List Value := [.int .i32 n]
theorem take_set {A B : List Int} {i : Nat} (hl : A.length = B.length) (hi : i < A.length) : (A.take i ++ B.drop i).set i A[i] = A.take (i + 1) ++ B.drop (i + 1) := by
  apply List.ext_getElem?
  intro j
  by_cases e : i = j
  · subst e
    rw [List.getElem?_set_self (by simp; omega)]
    rw [List.getElem?_append_left (by simp; omega), List.getElem?_take, if_pos (by omega)]
    simp
  · rw [List.getElem?_set_ne e]
    by_cases h : j < i
    · rw [List.getElem?_append_left (by simp; omega), List.getElem?_append_left (by simp; omega), List.getElem?_take, List.getElem?_take, if_pos h, if_pos (by omega)]
    · rw [List.getElem?_append_right (by simp; omega), List.getElem?_append_right (by simp; omega)]
      simp only [List.length_take, List.getElem?_drop]
      congr 1
      omega
theorem take_get {A B : List Int} {i : Nat} (hl : A.length = B.length) (hi : i < A.length) (h2 : i < (A.take i ++ B.drop i).length) : (A.take i ++ B.drop i)[i] = B[i]'(by omega) := by
  rw [List.getElem_append_right (by simp; omega)]
  simp [List.getElem_drop, Nat.min_eq_left (Nat.le_of_lt hi)]
theorem decs_len (s : ByteArray) : ∀ f p, (decs s f p).length ≤ s.size - p
  | 0, p => by simp [decs]
  | f + 1, p => by
    rw [decs]
    split
    · rename_i hp
      have h1 := decode_width_pos s p hp
      have h2 := decs_len s f (p + (Utf8.decode s p).2)
      simp only [List.length_cons]
      omega
    · simp
structure FLX where
  i : Nat
  xs : List Value
theorem s_ref_Fold (h : Nat → Option Obj) (hc : CaseH h) (s : ByteArray) (hs : s.size ≤ 100000000) :
    Ctr Tryz.prog F_rostrumref1_Fold [.raw (.string s)] [.heap h] (fun x H => x = .raw (.string (foldB s)) ∧ H = [.heap h]) := by
  refine i_rostrumref1_Fold.spec follows ?_
  refine VCall.mk [] (s_ref_Runes s hs) ⟨rfl, rfl, rfl⟩ ?_
  rintro _ _ ⟨xs, o1, c1, ys, o2, c2, rfl, rfl, h1, h2⟩
  have hB : ((rl s).map fun e => (e.2.1 : Int)).length = (rl s).length := List.length_map _
  have hA : (lowL (rl s)).length = (rl s).length := List.length_map _
  have hAB : (lowL (rl s)).length = ((rl s).map fun e => (e.2.1 : Int)).length := hA.trans hB.symm
  have hrl : (rl s).length ≤ 200000000 := by have := decs_len s (s.size + 1) 0; have e : rl s = decs s (s.size + 1) 0 := rfl; rw [e]; omega
  have h1' : RowG icl 1 xs o1 c1 ((lowL (rl s)).take 0 ++ ((rl s).map fun e => (e.2.1 : Int)).drop 0) := by
    refine ⟨by simpa using h1.1, h1.2.1, ?_⟩
    have h3 := h1.2.2
    simp only [List.take_zero, List.drop_zero, List.nil_append, List.length_map, List.flatMap_map] at h3 ⊢
    exact h3
  refine VLoop.mk FLX (fun y => [(3, .sl 1 o1 (rl s).length c1), (5, iv y.i)]) (fun y => [.heap h, .arr y.xs T_int32])
    (fun y => y.i ≤ (rl s).length ∧ RowG icl 1 y.xs o1 c1 ((lowL (rl s)).take y.i ++ ((rl s).map fun e => (e.2.1 : Int)).drop y.i)) (fun y => (rl s).length - y.i) ⟨0, xs⟩ [0, 1]
    ⟨⟨Nat.zero_le _, h1'⟩, rfl, rfl, rfl⟩ ?_
  rintro ⟨i, zs⟩ ⟨hi, hr⟩ g
  simp only at hi hr
  have hcl : ∀ x, (icl x).length = 1 := fun _ => rfl
  have hlen : ((lowL (rl s)).take i ++ ((rl s).map fun e => (e.2.1 : Int)).drop i).length = (rl s).length := by simp [hA]; omega
  have hroom : o1 + (rl s).length * 1 ≤ zs.length := by have := hr.2.1; have := hr.1; omega
  refine And.intro (fun k => ?_) (fun k => ?_)
  · have k : (i : Int) < ((rl s).length : Nat) := of_decide_eq_true k
    have hil : i < (rl s).length := by omega
    have hwi : IntKind.i64.wrap ((i : Int) + 1) = ((i + 1 : Nat) : Int) := wrap64 (by omega)
    have hx := RowG.one hr hcl (i := i) (by omega)
    rw [take_get hAB (by omega) (by omega)] at hx
    refine And.intro ⟨Int.natCast_nonneg i, k, hroom⟩ (Exists.intro _ (And.intro (by rw [Int.toNat_natCast]; exact hx) ?_))
    refine VCall.mk [0] (s_ToLower h hc _) ⟨rfl, rfl, rfl⟩ ?_
    rintro _ _ ⟨rfl, rfl⟩
    obtain ⟨ws, hz1, hz2, hz3⟩ := hr.set hcl (by omega) (i := i) (by omega) (lowL (rl s))[i]
    have hlow : (lowL (rl s))[i] = toLowerU (((rl s).map fun e => (e.2.1 : Int))[i]) := by simp [lowL]
    have e0 := take_set hAB (show i < (lowL (rl s)).length by omega)
    rw [e0] at hz2
    rw [hlow] at hz1
    refine And.intro ⟨Int.natCast_nonneg i, k, hroom⟩ (Exists.intro _ (And.intro (by rw [Int.toNat_natCast]; exact hz1) ?_))
    refine Exists.intro _ (And.intro hwi ?_)
    exact Exists.intro ⟨i + 1, ws⟩ (Exists.intro [0, 1] (And.intro ⟨⟨hil, hz2⟩, by simp only; omega⟩ ⟨rfl, rfl, rfl⟩))
  · have k : ¬ (i : Int) < ((rl s).length : Nat) := of_decide_eq_false k
    have hin : i = (rl s).length := by omega
    subst hin
    have e0 : (lowL (rl s)).take (rl s).length ++ ((rl s).map fun e => (e.2.1 : Int)).drop (rl s).length = lowL (rl s) := by
      rw [List.take_of_length_le (Nat.le_of_eq hA), List.drop_of_length_le (Nat.le_of_eq hB), List.append_nil]
    rw [e0] at hr
    have hr3 := hr.2.2
    rw [hA] at hr3
    have hfm : (lowL (rl s)).flatMap icl = (lowL (rl s)).map (.int .i32 ·) := by
      generalize lowL (rl s) = l
      induction l with
      | nil => rfl
      | cons x l ih => rw [List.flatMap_cons, ih]; rfl
    refine Exists.intro (lowL (rl s)) (And.intro (by rw [← hfm, ← hr3, hA]; rfl) ?_)
    exact VRet.mk [0] (.raw (.string (runesBytes (lowL (rl s))))) [.heap h] ⟨rfl, rfl, rfl⟩ ⟨by rw [fold_runes], rfl⟩
end Go.Proofs

