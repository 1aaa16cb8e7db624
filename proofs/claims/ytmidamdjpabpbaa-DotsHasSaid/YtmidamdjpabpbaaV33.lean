/- Part of the proof that the statement named in the last file holds: lemmas of the prover's own. No conditions. -/
import Derived.Test.YtmidamdjpabpbaaV32
import Derived.Shelf.SlSortCmp.NoneTotal
namespace Go.V
open Go Go.Proofs

/-! ### slices.SortFunc, by the library's law -/
section
variable {P : Program} {α : Type} {ρ : Rho} {H : List SO} {g : Fr} {w w' : World}

theorem St.grow (h : St ρ H g w) {os : Array Obj} (hwe : HeapIs w w' (w.heap ++ os)) : St ρ H g w' := by
  have hw := hwe.1
  have hold : ∀ (b : Nat) (o' : Obj), w.heap[b]? = some o' → w'.heap[b]? = some o' := by
    intro b o' hb
    have hlt := (Array.getElem?_eq_some_iff.1 hb).1
    rw [hw, Array.getElem?_append_left hlt]; exact hb
  constructor
  · intro k s hk
    refine entryOK_congr (List.getElem?_eq_some_iff.1 hk).1 (h.ent k s hk) (fun _ _ => rfl) ?_ ?_ (fun b o' _ hb _ _ => hold b o' hb)
    · rintro l e rfl; exact h.scp k l e hk
    · rintro m s' seen st rfl; exact h.sci k m s' seen st hk
  · exact h.dis
  · exact h.gho
  · exact hwe.env h
  · intro b o hb; exact hold b o (h.frm b o hb)
  · exact h.frd
  · exact h.scp
  · exact h.sci

theorem St.empty (ρ : Rho) (W : World) : St ρ [] ⟨fun b => W.heap[b]?, W.os, W.tape, W.output, W.drawn⟩ W := by
  constructor
  · intro k so hk; simp at hk
  · intro i j si sj b _ hi; simp at hi
  · intro i j si h b hi; simp at hi
  · exact ⟨rfl, rfl, rfl, Nat.le_refl _⟩
  · intro b o h; exact h
  · intro i si b hi; simp at hi
  · intro k l e hk; simp at hk
  · intro k m s seen st hk; simp at hk

/-- What a contract without blocks leaves of the world. -/
theorem ctr_grows {f : FuncId} {args : List SV} {Post : SV → List SO → Prop} (h : Ctr P f args [] Post) (W : World) (ha : belowL 0 args = true) {vs : Array Value}
    (hv : (valL (fun _ => none) args).toArray = vs) {r : Value} (hp : ∀ v H ρ', Post v H → val ρ' v = r) :
    Calls P f vs W fun e w' => e = .returned r ∧ ∃ q os', w' = Sort.grow (W.drewN q) os' := by
  subst hv
  refine Calls.mono (h (fun _ => none) _ W (St.empty _ W) ha) ?_
  rintro e w' ⟨ρ', v, H', rfl, hS, -, -, -, hP⟩
  refine ⟨by rw [hp v H' ρ' hP], w'.drawn - W.drawn, w'.heap.extract W.heap.size, ?_⟩
  obtain ⟨h1, h2, h3, h4⟩ := hS.env
  have hle : W.heap.size ≤ w'.heap.size := by
    rcases Nat.eq_zero_or_pos W.heap.size with h | h
    · omega
    · have := hS.frm (W.heap.size - 1) _ (Array.getElem?_eq_getElem (xs := W.heap) (by omega))
      have := (Array.getElem?_eq_some_iff.1 this).1
      omega
  have hh : w'.heap = W.heap ++ w'.heap.extract W.heap.size := by
    apply Array.ext_getElem?
    intro i
    by_cases hi : i < W.heap.size
    · rw [Array.getElem?_append_left hi]
      rw [hS.frm i _ (Array.getElem?_eq_getElem hi)]; simp [hi]
    · rw [Array.getElem?_append_right (by omega), Array.getElem?_extract]
      by_cases hj : i < w'.heap.size
      · rw [if_pos (by omega)]; congr 1; omega
      · rw [if_neg (by omega)]; simp; omega
  have hd : w'.drawn = W.drawn + (w'.drawn - W.drawn) := by simp only at h4; omega
  cases w'
  simp only at h1 h2 h3 hh hd
  simp only [Sort.grow, World.drewN, World.mk.injEq]
  exact ⟨hh, h2, hd, h1, h3⟩

theorem val_raws (ρ : Rho) : ∀ l : List Value, valL ρ (l.map .raw) = l
  | [] => rfl
  | v :: l => by simp [valL, V.val, val_raws ρ l]

theorem flatMap_get [Inhabited α] {f : α → List Value} {k : Nat} (hk : ∀ x, (f x).length = k) : ∀ (l : List α) (t : Nat), t < l.length * k → (l.flatMap f)[t]? = (f l[t / k]!)[t % k]?
  | [], t, h => by simp at h
  | x :: l, t, h => by
    rw [List.flatMap_cons]
    have k0 : 0 < k := by rcases Nat.eq_zero_or_pos k with h0 | h0; · subst h0; simp at h
                          · exact h0
    by_cases h1 : t < k
    · rw [List.getElem?_append_left (by rw [hk]; exact h1), Nat.div_eq_of_lt h1, Nat.mod_eq_of_lt h1]; rfl
    · rw [List.getElem?_append_right (by rw [hk]; omega), hk]
      have h2 : t - k < l.length * k := by rw [List.length_cons, Nat.add_mul] at h; omega
      rw [flatMap_get hk l (t - k) h2]
      have e1 : t / k = (t - k) / k + 1 := by rw [← Nat.sub_add_cancel (Nat.le_of_not_lt h1), Nat.add_div_right _ k0]; simp
      have e2 : t % k = (t - k) % k := by rw [Nat.mod_eq_sub_mod (by omega)]
      rw [e1, e2]; simp
theorem flatK_flatMap [Inhabited α] {f : α → List Value} {k : Nat} (hk : ∀ x, (f x).length = k) (l : List α) : Sort.flatK f k l.toArray = (l.flatMap f).toArray := by
  have hlen : ∀ l : List α, (l.flatMap f).length = l.length * k := by
    intro l; induction l with
    | nil => simp
    | cons x l ih => simp [ih, hk, Nat.add_mul]; omega
  apply Array.ext_getElem?
  intro t
  by_cases h : t < l.length * k
  · rw [show (l.flatMap f).toArray[t]? = (l.flatMap f)[t]? from by simp, flatMap_get hk l t h]
    have k0 : 0 < k := by rcases Nat.eq_zero_or_pos k with h0 | h0; · subst h0; simp at h
                          · exact h0
    have := Sort.get_flatK f k l.toArray t (by simpa using h)
    have hs : t < (Sort.flatK f k l.toArray).size := by simpa using h
    rw [getElem!_pos _ t hs] at this
    rw [Array.getElem?_eq_getElem hs, this]
    have hm : t % k < (f l[t / k]!).length := by rw [hk]; exact Nat.mod_lt _ k0
    rw [List.getElem?_eq_getElem hm, getElem!_pos (f l.toArray[t / k]!) _ (by simpa using hm)]
    simp
  · rw [Array.getElem?_eq_none (by simp; omega), Array.getElem?_eq_none (by simp [hlen]; omega)]

theorem flatMap_len {f : α → List Value} {k : Nat} (hk : ∀ x, (f x).length = k) (l : List α) : (l.flatMap f).length = l.length * k := by
  induction l with
  | nil => simp
  | cons x l ih => simp [ih, hk, Nat.add_mul]; omega

/-- The row with ys at o. -/
def rowSet (xs : List Value) (o : Nat) (ys : List Value) : List Value := xs.take o ++ ys ++ xs.drop (o + ys.length)
theorem rowSet_len {xs : List Value} {o : Nat} {ys : List Value} (h : o + ys.length ≤ xs.length) : (rowSet xs o ys).length = xs.length := by
  simp [rowSet]; omega
theorem rowSet_cut {xs : List Value} {o : Nat} {ys : List Value} (h : o + ys.length ≤ xs.length) : ((rowSet xs o ys).drop o).take ys.length = ys := by
  have h1 : (xs.take o).length = o := by simp; omega
  rw [rowSet, List.append_assoc, List.drop_append_of_le_length (by omega), List.drop_eq_nil_of_le (by omega), List.nil_append, List.take_append_of_le_length (by omega), List.take_of_length_le (by omega)]
theorem rowSet_self {xs : List Value} {o n : Nat} (h : o + n ≤ xs.length) : rowSet xs o ((xs.drop o).take n) = xs := by
  have h1 : ((xs.drop o).take n).length = n := by simp; omega
  rw [rowSet, h1, ← List.drop_drop, List.append_assoc, List.take_append_drop, List.take_append_drop]
theorem putCells_rowSet {xs : List Value} {o : Nat} {ys : List Value} (h : o + ys.length ≤ xs.length) : Sort.putCells id o ys.toArray xs.toArray = (rowSet xs o ys).toArray := by
  have h1 : (xs.take o).length = o := by simp; omega
  apply Array.ext_getElem?
  intro t
  simp only [Sort.putCells, Array.getElem?_mapIdx, List.size_toArray, id]
  rw [show (rowSet xs o ys).toArray[t]? = (rowSet xs o ys)[t]? from by simp, show xs.toArray[t]? = xs[t]? from by simp, rowSet, List.append_assoc]
  by_cases h2 : t < o
  · rw [List.getElem?_append_left (by omega), List.getElem?_take_of_lt h2, List.getElem?_eq_getElem (by omega)]
    simp [show ¬ (o ≤ t) by omega]
  · rw [List.getElem?_append_right (by omega), h1]
    by_cases h3 : t < o + ys.length
    · rw [List.getElem?_append_left (by omega), List.getElem?_eq_getElem (by omega), List.getElem?_eq_getElem (by omega)]
      have : t - o < ys.toArray.size := by simp; omega
      simp [show o ≤ t ∧ t < o + ys.length by omega, getElem!_pos ys.toArray (t - o) this]
    · rw [List.getElem?_append_right (by omega), List.getElem?_drop, show o + ys.length + (t - o - ys.length) = t by omega]
      by_cases h4 : t < xs.length
      · rw [List.getElem?_eq_getElem h4]; simp [show ¬ (t < o + ys.length) by omega]
      · rw [List.getElem?_eq_none (by omega)]; rfl

theorem cellsOK_one : ∀ {l : List Value}, cellsOK l = true → ∀ v ∈ l, v.oneCell' = true
  | [], _, v, hv => by simp at hv
  | x :: l, h, v, hv => by
    have h2 : cellsOK l = true ∧ x.oneCell' = true := by
      cases x <;> simp_all [cellsOK, Value.oneCell']
    rcases List.mem_cons.1 hv with rfl | hv
    · exact h2.2
    · exact cellsOK_one h2.1 v hv

theorem array_extract_all (d : Array α) : d.extract 0 d.size = d := by simp

/-- slices.SortFunc at elements of k cells: a permutation, sorted. -/
theorem sortK_ctr [Inhabited α] {r : Shelf.Ren} (L : SlLaysF0.n6 P r) {k : Nat} (aE : ∀ w, (isAgg (r.t 24)).run P w = .ok true w) (zE : ∀ w, (Go.sizeOf (r.t 24)).run P w = .ok k w) {cells : α → List Value} (hk : ∀ x, (cells x).length = k) (k0 : 0 < k)
    (h1 : ∀ x, cellsOK (cells x) = true) (cf : α → α → Int) (hO : Sort.SWO (ltOf cf)) {gq : FuncId} (he : enters P gq = true)
    (hcmp : ∀ x y, Ctr P gq [.agg ((cells x).map .raw), .agg ((cells y).map .raw)] [] (fun v _ => v = .raw (.int .i64 (cf x y))))
    {H : List SO} {j off cap : Nat} {xs : List Value} {e : TypeId} (hj : H[j]? = some (.arr xs e)) (d : List α) (hd : (xs.drop off).take (d.length * k) = d.flatMap cells) (hlen : off + d.length * k ≤ xs.length) (hsz : d.length < 4611686018427387904) :
    Ctr P (r.f 6) [.sl j off d.length cap, .fn gq []] H (fun v H' => v = .tup [] ∧ ∃ d' : List α, d'.Perm d ∧ d'.Pairwise (fun a b => ltOf cf b a = false) ∧ H' = H.set j (.arr (rowSet xs off (d'.flatMap cells)) e)) := by
  intro ρ g w hS hb
  have hjl := (List.getElem?_eq_some_iff.1 hj).1
  have hent := hS.ent j _ hj
  have hfl := flatMap_len hk d
  simp only [valL, V.val]
  rcases hent with ⟨hn, hx⟩ | ⟨b, fr, hρ, hwb, hfr⟩
  · subst hx
    have hd0 : d = [] := by
      cases d with
      | nil => rfl
      | cons x d =>
        have := Nat.mul_pos (show 0 < (x :: d).length by simp) k0
        simp only [List.length_nil] at hlen; omega
    subst hd0
    refine Calls.mono (AnyF.slices_SortFunc_none L _ _ _ w) ?_
    rintro e' w' ⟨rfl, rfl⟩
    refine ⟨ρ, .tup [], H, rfl, hS, fun _ _ => rfl, Nat.le_refl _, rfl, rfl, [], List.Perm.refl _, List.Pairwise.nil, ?_⟩
    have : rowSet [] off (List.flatMap cells []) = [] := by simp [rowSet]
    rw [this]
    apply List.ext_getElem?
    intro i
    by_cases hij : j = i
    · subst hij; rw [List.getElem?_set_self hjl, hj]
    · simp [hij]
  · have hHold : Sort.HoldsK cells k w b off d.toArray := by
      unfold Sort.HoldsK
      rw [flatK_flatMap hk]
      intro i hi
      have hi : i < d.length * k := by simpa [hfl] using hi
      have hg : xs[off + i]? = some ((d.flatMap cells).toArray[i]!) := by
        have hi2 : i < (d.flatMap cells).length := by omega
        have h3 : ((xs.drop off).take (d.length * k))[i]? = (d.flatMap cells)[i]? := by rw [hd]
        rw [List.getElem?_take_of_lt hi, List.getElem?_drop, List.getElem?_eq_getElem hi2] at h3
        rw [h3, getElem!_pos _ _ (by simpa using hi2)]; simp
      constructor
      · rw [cell_of hwb]; simpa using hg
      · have := (List.getElem?_eq_some_iff.1 hg).1
        simp only [World.frozen?, hwb]
        rcases hfr with h5 | h5
        · simp; omega
        · simp; omega
    have hblk : b < w.heap.size := (Array.getElem?_eq_some_iff.1 hwb).1
    rw [show (ρ j).map (fun b => (⟨b, off, none⟩ : Addr)) = some ⟨b, off, none⟩ by rw [hρ]; rfl]
    refine Calls.mono (AnyQ.slices_SortFunc L k aE zE cells hk (fun x => cellsOK_one (h1 x)) cf hO gq #[] b off cap d.toArray w (fun args w => run_enters he args) ?_ hHold hblk (by simpa using hsz)) ?_
    · intro m os dk _ x y
      exact ctr_grows (hcmp x y) _ (by simp [belowL, below, below_raws]) (by simp [valL, V.val, val_raws]) (r := .int .i64 (cf x y)) (by rintro v H ρ' rfl; rfl)
    · rintro e' w' ⟨rfl, d', n, os, hp, hso, rfl⟩
      obtain ⟨hp1, hp2, hp3⟩ := hp
      have hds : d'.size = d.length := by simpa using hp1
      have hperm : d'.toList.Perm d := by
        have e1 : d'.extract 0 d.toArray.size = d' := by rw [List.size_toArray, ← hds]; exact array_extract_all d'
        have e2 : d.toArray.extract 0 d.toArray.size = d.toArray := array_extract_all _
        rw [e1, e2] at hp3
        simpa using hp3
      have hfl' : (d'.toList.flatMap cells).length = d.length * k := by rw [flatMap_len hk, Array.length_toList, hds]
      refine ⟨ρ, .tup [], H.set j (.arr (rowSet xs off (d'.toList.flatMap cells)) e), rfl, ?_, fun _ _ => rfl, by simp, rfl, rfl, d'.toList, hperm, ?_, rfl⟩
      · have hw1 : HeapIs w (Sort.putRowK cells k (Sort.ahead w n) b off d') (w.heap.setIfInBounds b (.cells (rowSet xs off (d'.toList.flatMap cells)).toArray e fr)) := by
          refine ⟨?_, rfl, rfl, rfl, Nat.le_add_right _ _⟩
          show (Sort.putRow id (Sort.ahead w n) b off (Sort.flatK cells k d')).heap = _
          rw [show d' = d'.toList.toArray by simp, flatK_flatMap hk]
          simp only [Sort.putRow, Sort.mapBlock, Sort.ahead]
          apply Array.ext_getElem?
          intro i
          by_cases hi : b = i
          · subst hi
            rw [Array.getElem?_modify, if_pos rfl, hwb]
            simp only [Option.map_some, Sort.onCells, Array.getElem?_setIfInBounds, if_pos hblk]
            rw [putCells_rowSet (by omega)]; simp
          · rw [Array.getElem?_modify, if_neg hi, Array.getElem?_setIfInBounds_ne hi]
        have hS1 := hS.set (so' := .arr (rowSet xs off (d'.toList.flatMap cells)) e) hj rfl rfl hρ hw1
          (.inr ⟨b, fr, hρ, by rw [hw1.1]; simp [hblk], by rw [rowSet_len (by omega)]; exact hfr⟩) (by simp) (by simp)
        exact hS1.grow (os := os) ⟨rfl, rfl, rfl, rfl, Nat.le_refl _⟩
      · rw [List.pairwise_iff_getElem]
        intro i i' hi hi' hlt
        have := hso i i' (Nat.zero_le _) hlt (by simp at hi'; simpa [← hds] using hi')
        simp only [Array.length_toList] at hi hi'
        rw [getElem!_pos d' _ hi', getElem!_pos d' _ hi] at this
        simpa using this
theorem cut_take {α : Type} : ∀ (l : List α) (o n : Nat), o + n ≤ l.length → cut l o n = some ((l.drop o).take n)
  | l, o, 0, _ => by cases l <;> cases o <;> simp [cut]
  | [], o, n + 1, h => by simp at h
  | x :: l, o + 1, n + 1, h => by
    rw [cut, cut_take l o (n + 1) (by simp at h; omega)]; simp
  | x :: l, 0, n + 1, h => by
    rw [cut, cut_take l 0 n (by simp at h; omega)]; simp
end
end Go.V
