/- Part of the proof that the statement named in the last file holds: lemmas of the prover's own. No conditions. -/
import Derived.Test.YtmidamdjpabpbaaV22
import Derived.IntWalk
namespace Go.V
open Go

abbrev iv (n : Int) : SV := .raw (.int .i64 n)
abbrev bv (b : Bool) : SV := .raw (.bool b)

/-! ### Vectors of seven -/
abbrev vcells (v : Nat → Int) : List SV := [iv (v 0), iv (v 1), iv (v 2), iv (v 3), iv (v 4), iv (v 5), iv (v 6)]
theorem vcells_get (v : Nat → Int) (i : Nat) (h : i < 7) (l : List SV) : (vcells v ++ l)[i]? = some (iv (v i)) := by
  match i, h with | 0, _ | 1, _ | 2, _ | 3, _ | 4, _ | 5, _ | 6, _ => rfl
theorem vcells_get' (v : Nat → Int) {n : Int} (h : 0 ≤ n ∧ n < 7) (l : List SV) : (vcells v ++ l)[0 + n.toNat * 1]? = some (iv (v n.toNat)) := by
  rw [Nat.zero_add, Nat.mul_one]; exact vcells_get v _ (by omega) l
def upv (v : Nat → Int) (i : Nat) (x : Int) : Nat → Int := fun j => if j = i then x else v j
theorem vcells_put (v : Nat → Int) (x : Int) {n : Int} (h : 0 ≤ n ∧ n < 7) (l : List SV) : paste (vcells v ++ l) (0 + n.toNat * 1) [iv x] = some (vcells (upv v n.toNat x) ++ l) := by
  rw [Nat.zero_add, Nat.mul_one]
  have h7 : n.toNat < 7 := by omega
  generalize n.toNat = i at *
  match i, h7 with | 0, _ | 1, _ | 2, _ | 3, _ | 4, _ | 5, _ | 6, _ => simp [paste, upv]
theorem wrap64 {n : Int} (h : -9223372036854775808 ≤ n ∧ n ≤ 9223372036854775807) : IntKind.i64.wrap n = n := IntWalk.i64_in n h

/-! ### Association lists -/
section
variable {K V : Type} [DecidableEq K]
theorem find_any (k : K) : ∀ (ms : List (K × V × Nat)) (i j : Nat), (MP.find k ms i).map (·.2) = (MP.find k ms j).map (·.2)
  | [], _, _ => rfl
  | x :: ms, i, j => by
    unfold MP.find
    split
    · rfl
    · exact find_any k ms _ _
theorem get_nil (k : K) : MP.get ([] : List (K × V × Nat)) k = none := rfl
theorem get_cons (x : K × V × Nat) (ms : List (K × V × Nat)) (k : K) : MP.get (x :: ms) k = if k = x.1 then some x.2.1 else MP.get ms k := by
  unfold MP.get
  rw [MP.find]
  split
  · rfl
  · exact find_any k ms _ _
theorem get_mem : ∀ {ms : List (K × V × Nat)} {k : K}, (MP.get ms k).isSome = true ↔ k ∈ ms.map (·.1)
  | [], k => by simp [get_nil]
  | x :: ms, k => by
    rw [get_cons]
    by_cases h : k = x.1
    · simp [h]
    · simp only [h, if_false, get_mem (ms := ms), List.map_cons, List.mem_cons, false_or]
theorem get_put : ∀ (ms : List (K × V × Nat)) (k : K) (v : V) (c : Nat) (d : K), MP.get (MP.put ms k v c) d = if d = k then some v else MP.get ms d
  | [], k, v, c, d => by
    rw [MP.put, get_cons, get_nil]
  | x :: ms, k, v, c, d => by
    rw [MP.put]
    by_cases h : k = x.1
    · rw [if_pos h, get_cons, get_cons, h]
      by_cases h2 : d = x.1 <;> simp [h2]
    · rw [if_neg h, get_cons, get_cons, get_put ms]
      by_cases h2 : d = x.1
      · simp [h2, Ne.symm h]
      · simp [h2]
theorem keys_put : ∀ (ms : List (K × V × Nat)) (k : K) (v : V) (c : Nat), (MP.put ms k v c).map (·.1) = if k ∈ ms.map (·.1) then ms.map (·.1) else ms.map (·.1) ++ [k]
  | [], k, v, c => by simp [MP.put]
  | x :: ms, k, v, c => by
    rw [MP.put]
    by_cases h : k = x.1
    · simp [h]
    · rw [if_neg h]
      simp only [List.map_cons, keys_put ms, List.mem_cons, h, false_or]
      split <;> simp
theorem nodup_put {ms : List (K × V × Nat)} (h : (ms.map (·.1)).Nodup) (k : K) (v : V) (c : Nat) : ((MP.put ms k v c).map (·.1)).Nodup := by
  rw [keys_put]
  split
  · exact h
  · rename_i hk
    rw [List.nodup_append]
    exact ⟨h, by simp, fun a ha b hb => by simp at hb; subst hb; exact fun e => hk (e ▸ ha)⟩
theorem len_put (ms : List (K × V × Nat)) (k : K) (v : V) (c : Nat) : (MP.put ms k v c).length = if (MP.get ms k).isSome then ms.length else ms.length + 1 := by
  have := congrArg List.length (keys_put ms k v c)
  rw [List.length_map] at this
  rw [this]
  by_cases h : k ∈ ms.map (·.1)
  · rw [if_pos h, if_pos (get_mem.2 h), List.length_map]
  · have h2 : ¬ (MP.get ms k).isSome = true := fun e => h (get_mem.1 e)
    rw [if_neg h, if_neg h2]; simp
theorem keys_del : ∀ (ms : List (K × V × Nat)) (k : K), (MP.del ms k).map (·.1) = (ms.map (·.1)).erase k
  | [], k => rfl
  | x :: ms, k => by
    rw [MP.del]
    by_cases h : k = x.1
    · simp [h]
    · rw [if_neg h]
      simp only [List.map_cons, keys_del ms]
      rw [List.erase_cons_tail]
      simpa using fun e : x.1 = k => h e.symm
theorem get_del : ∀ (ms : List (K × V × Nat)) (k d : K), (ms.map (·.1)).Nodup → MP.get (MP.del ms k) d = if d = k then none else MP.get ms d
  | [], k, d, _ => by simp [MP.del, get_nil]
  | x :: ms, k, d, h => by
    simp only [List.map_cons, List.nodup_cons] at h
    rw [MP.del]
    by_cases hk : k = x.1
    · rw [if_pos hk, get_cons, hk]
      by_cases h2 : d = x.1
      · have : MP.get ms d = none := by
          cases hg : MP.get ms d with
          | none => rfl
          | some v => exact absurd (get_mem.1 (by rw [hg]; rfl)) (h2 ▸ h.1)
        simp [h2, h2 ▸ this]
      · simp [h2]
    · rw [if_neg hk, get_cons, get_cons, get_del ms k d h.2]
      by_cases h2 : d = x.1
      · simp [h2, Ne.symm hk]
      · simp [h2]
theorem nodup_del {ms : List (K × V × Nat)} (h : (ms.map (·.1)).Nodup) (k : K) : ((MP.del ms k).map (·.1)).Nodup := by
  rw [keys_del]; exact h.erase k
theorem len_del {ms : List (K × V × Nat)} {k : K} (h : (MP.get ms k).isSome = true) : (MP.del ms k).length + 1 = ms.length := by
  have h1 := congrArg List.length (keys_del ms k)
  rw [List.length_map, List.length_erase_of_mem (get_mem.1 h), List.length_map] at h1
  have : 0 < ms.length := by
    have := List.length_pos_of_mem (get_mem.1 h)
    simpa using this
  omega
/-- A map's entries were born one by one, ahead of its clock. -/
def MOK (ms : List (K × V × Nat)) (c : Nat) : Prop := (∀ x ∈ ms, x.2.2 < c) ∧ (ms.map (·.2.2)).Nodup
omit [DecidableEq K] in
theorem MOK.nil (c : Nat) : MOK ([] : List (K × V × Nat)) c := ⟨by simp, by simp⟩
theorem del_sub : ∀ (ms : List (K × V × Nat)) (k : K), (MP.del ms k).Sublist ms
  | [], _ => .slnil
  | x :: ms, k => by
    rw [MP.del]
    split
    · exact List.sublist_cons_self _ _
    · exact (del_sub ms k).cons_cons _
theorem MOK.del {ms : List (K × V × Nat)} {c : Nat} (h : MOK ms c) (k : K) : MOK (MP.del ms k) c :=
  ⟨fun x hx => h.1 x ((del_sub ms k).subset hx), h.2.sublist ((del_sub ms k).map _)⟩
theorem put_born : ∀ (ms : List (K × V × Nat)) (k : K) (v : V) (c : Nat), (MP.put ms k v c).map (·.2.2) = if (MP.get ms k).isSome then ms.map (·.2.2) else ms.map (·.2.2) ++ [c]
  | [], k, v, c => by simp [MP.put, get_nil]
  | x :: ms, k, v, c => by
    rw [MP.put, get_cons]
    by_cases h : k = x.1
    · simp [h]
    · rw [if_neg h, if_neg h]
      simp only [List.map_cons, put_born ms]
      split <;> simp
theorem MOK.put {ms : List (K × V × Nat)} {c : Nat} (h : MOK ms c) (k : K) (v : V) : MOK (MP.put ms k v c) (if (MP.get ms k).isSome then c else c + 1) := by
  have hb : ∀ n, n ∈ ms.map (·.2.2) → n < c := by
    intro n hn
    obtain ⟨x, hx, rfl⟩ := List.mem_map.1 hn
    exact h.1 x hx
  have hall : ∀ x ∈ MP.put ms k v c, x.2.2 ∈ (MP.put ms k v c).map (·.2.2) := fun x hx => List.mem_map.2 ⟨x, hx, rfl⟩
  constructor
  · intro x hx
    have := hall x hx
    rw [put_born] at this
    split
    · rename_i hs
      rw [if_pos hs] at this
      exact hb _ this
    · rename_i hs
      rw [if_neg hs] at this
      rcases List.mem_append.1 this with h1 | h1
      · have := hb _ h1; omega
      · have : x.2.2 = c := by simpa using h1
        omega
  · rw [put_born]
    split
    · exact h.2
    · rw [List.nodup_append]
      exact ⟨h.2, by simp, fun a ha b hb' => by
        simp at hb'; subst hb'
        have := hb a ha
        omega⟩
end

abbrev dcells (r n : Int) : List SV := [iv r, iv n]
end Go.V
