/- Part of the proof that the statement named in the last file holds: lemmas of the prover's own. No conditions. -/
import Derived.Test.YtmidamdjpabpbaaD6
namespace Go.Proofs
open Go Go.V
set_option maxRecDepth 100000
set_option linter.unusedVariables false

/-! ### How many were seen -/
def clk (v : Nat → Int) (n : Nat) : List (Int × Int) := (List.range n).flatMap fun r => (List.range (v r).toNat).map fun (k : Nat) => ((r : Int), (k : Int) + 1)
def allOf (v : Nat → Int) (ms : DM) : List (Int × Int) := clk v 7 ++ keysOf ms
theorem mem_clk {v : Nat → Int} {n : Nat} {d : Int × Int} : d ∈ clk v n ↔ ∃ r : Nat, r < n ∧ d.1 = r ∧ 1 ≤ d.2 ∧ d.2 ≤ v r := by
  simp only [clk, List.mem_flatMap, List.mem_range, List.mem_map]
  constructor
  · rintro ⟨r, hr, k, hk, rfl⟩
    exact ⟨r, hr, rfl, by simp only; omega, by simp only; omega⟩
  · rintro ⟨r, hr, h1, h2, h3⟩
    refine ⟨r, hr, (d.2 - 1).toNat, by omega, ?_⟩
    ext
    · exact h1.symm
    · simp only; omega
theorem mem_clk7 {v : Nat → Int} {d : Int × Int} : d ∈ clk v 7 ↔ has v d.1 d.2 = true := by
  rw [mem_clk, has_iff]
  constructor
  · rintro ⟨r, hr, h1, h2, h3⟩
    rw [h1]; simp only [Int.toNat_natCast]; omega
  · rintro ⟨h1, h2, h3⟩
    exact ⟨d.1.toNat, by omega, by omega, h2, h3⟩
theorem len_clk {v : Nat → Int} (hv : ∀ r, r < 7 → 0 ≤ v r ∧ v r ≤ 1099511627776) : ∀ n, n ≤ 7 → ((clk v n).length : Int) = sumN v n
  | 0, _ => by simp [clk, sumN]
  | n + 1, hn => by
    have := len_clk hv n (by omega)
    have h := hv n (by omega)
    simp only [clk] at this ⊢
    rw [List.range_succ, List.flatMap_append, List.length_append, sumN, Int.natCast_add, this]
    simp; omega
theorem nodup_clk (v : Nat → Int) (n : Nat) : (clk v n).Nodup := by
  unfold clk List.Nodup
  rw [List.pairwise_flatMap]
  refine ⟨fun r _ => ?_, ?_⟩
  · rw [List.pairwise_map]
    refine List.Pairwise.imp ?_ (List.nodup_range (n := (v r).toNat))
    intro a b hab h
    simp only [Prod.mk.injEq] at h; omega
  · refine List.Pairwise.imp ?_ (List.nodup_range (n := n))
    intro a b hab x hx y hy h
    obtain ⟨k, _, rfl⟩ := List.mem_map.1 hx
    obtain ⟨k', _, rfl⟩ := List.mem_map.1 hy
    simp only [Prod.mk.injEq] at h; omega
theorem mem_keysOf {ms : DM} {d : Int × Int} : d ∈ keysOf ms ↔ inM ms d = true := get_mem.symm
theorem Pre.nodup {v : Nat → Int} {ms : DM} {S : Int × Int → Prop} (h : Pre v ms S) : (allOf v ms).Nodup := by
  unfold allOf
  rw [List.nodup_append]
  refine ⟨nodup_clk v 7, h.nd, fun a ha b hb => ?_⟩
  rintro rfl
  have h1 := has_iff.1 (mem_clk7.1 ha)
  have h2 := (h.far _ (mem_keysOf.1 hb)).2
  omega
theorem Pre.mem_all {v : Nat → Int} {ms : DM} {S : Int × Int → Prop} (h : Pre v ms S) (d : Int × Int) : d ∈ allOf v ms ↔ S d := by
  unfold allOf
  rw [List.mem_append, h.seen, mem_clk7, mem_keysOf]
theorem Pre.len_all {v : Nat → Int} {ms : DM} {S : Int × Int → Prop} (h : Pre v ms S) : ((allOf v ms).length : Int) = lenOf v ms := by
  have := len_clk h.lo 7 (Nat.le_refl _)
  simp only [allOf, List.length_append, lenOf, Int.natCast_add, this, keysOf, List.length_map]; omega
/-- One more. -/
theorem Canon.len_add {v v' : Nat → Int} {ms ms' : DM} {S : Int × Int → Prop} {d : Int × Int} (h : Canon v ms S) (h' : Canon v' ms' (fun x => x = d ∨ S x)) (hn : ¬ S d) : lenOf v' ms' = lenOf v ms + 1 := by
  rw [← h.len_all, ← h'.len_all]
  have hp : (allOf v' ms').Perm (d :: allOf v ms) := by
    refine (List.perm_ext_iff_of_nodup h'.nodup (List.nodup_cons.2 ⟨fun e => hn ((h.mem_all d).1 e), h.nodup⟩)).2 fun x => ?_
    rw [h'.mem_all, List.mem_cons, h.mem_all]
  rw [hp.length_eq]; simp
/-- No fewer. -/
theorem Canon.len_le {v v' : Nat → Int} {ms ms' : DM} {S S' : Int × Int → Prop} (h : Canon v ms S) (h' : Canon v' ms' S') (hs : ∀ d, S d → S' d) : lenOf v ms ≤ lenOf v' ms' := by
  rw [← h.len_all, ← h'.len_all]
  have hp : ((allOf v' ms').filter (fun x => decide (x ∈ allOf v ms))).Perm (allOf v ms) := by
    refine (List.perm_ext_iff_of_nodup (List.Pairwise.filter _ h'.nodup) h.nodup).2 fun x => ?_
    rw [List.mem_filter, h'.mem_all]
    constructor
    · rintro ⟨_, h2⟩; exact of_decide_eq_true h2
    · intro h2; exact ⟨hs x ((h.mem_all x).1 h2), decide_eq_true h2⟩
  have h1 := hp.length_eq
  have h2 := List.length_filter_le (fun x => decide (x ∈ allOf v ms)) (allOf v' ms')
  omega

/-- Those loose, in order: one list. -/
def Srt (ms : DM) (d : List (Int × Int)) : Prop := d.Perm (keysOf ms) ∧ d.Pairwise (fun a b => ¬ cmpD b a < 0)
theorem Srt.uniq {ms : DM} {d d' : List (Int × Int)} (h : Srt ms d) (h' : Srt ms d') : d = d' := by
  refine List.Perm.eq_of_pairwise (le := fun a b => ¬ cmpD b a < 0) ?_ h.2 h'.2 (h.1.trans h'.1.symm)
  intro a b _ _ h1 h2
  rw [cmpD_lt] at h1 h2
  ext
  · omega
  · omega
theorem Srt.mem {ms : DM} {d : List (Int × Int)} (h : Srt ms d) (x : Int × Int) : x ∈ d ↔ inM ms x = true := by
  rw [h.1.mem_iff, mem_keysOf]
end Go.Proofs
