/- Part of the proof that the statement named in the last file holds: lemmas of the prover's own. No conditions. -/
import Derived.Test.YtmidamdjpabpbaaVC
import Derived.Shelf.SlSortCmp.NoneTotal
import Derived.Below
import Derived.ProofKit
import Derived.Deep.SlicePairs
import Derived.Lib.SmallJoins
import Derived.Shelf.SlMaps.Clone
import Derived.Test.YtmidamdjpabpbaaVB
namespace Go.V
open Go Go.Proofs

/-! ### slices.SortFunc, by the library's law -/
section
variable {P : Program} {α : Type} {ρ : Rho} {H : List SO} {g : Fr} {w w' : World}

theorem St.grow (h : St ρ H g w) {os : Array Obj} (hwe : HeapIs w w' (w.heap ++ os)) : St ρ H g w' := by
  have hw := hwe.1
  have hold : ∀ (b : Nat) (o' : Obj), w.heap[b]? = some o' → w'.heap[b]? = some o' := by
    intro b o' hb
    have hlt := (Array.getElem?_eq_some_iff.1 hb).1
    rw [hw, Array.getElem?_append_left hlt]; exact hb
  constructor
  · intro k s hk
    refine entryOK_congr (List.getElem?_eq_some_iff.1 hk).1 (h.ent k s hk) (fun _ _ => rfl) ?_ ?_ (fun b o' _ hb _ _ => hold b o' hb)
    · rintro l e rfl; exact h.scp k l e hk
    · rintro m s' seen st rfl; exact h.sci k m s' seen st hk
  · exact h.dis
  · exact h.gho
  · exact hwe.env h
  · intro b o hb; exact hold b o (h.frm b o hb)
  · exact h.frd
  · exact h.scp
  · exact h.sci

theorem St.empty (ρ : Rho) (W : World) : St ρ [] ⟨fun b => W.heap[b]?, W.os, W.tape, W.output, W.drawn⟩ W := by
  constructor
  · intro k so hk; simp at hk
  · intro i j si sj b _ hi; simp at hi
  · intro i j si h b hi; simp at hi
  · exact ⟨rfl, rfl, rfl, Nat.le_refl _⟩
  · intro b o h; exact h
  · intro i si b hi; simp at hi
  · intro k l e hk; simp at hk
  · intro k m s seen st hk; simp at hk

/-- What a contract without blocks leaves of the world. -/
theorem ctr_grows {f : FuncId} {args : List SV} {Post : SV → List SO → Prop} (h : Ctr P f args [] Post) (W : World) (ha : belowL 0 args = true) {vs : Array Value}
    (hv : (valL (fun _ => none) args).toArray = vs) {r : Value} (hp : ∀ v H ρ', Post v H → val ρ' v = r) :
    Calls P f vs W fun e w' => e = .returned r ∧ ∃ q os', w' = Sort.grow (W.drewN q) os' := by
  subst hv
  refine Calls.mono (h (fun _ => none) _ W (St.empty _ W) ha) ?_
  rintro e w' ⟨ρ', v, H', rfl, hS, -, -, -, hP⟩
  refine ⟨by rw [hp v H' ρ' hP], w'.drawn - W.drawn, w'.heap.extract W.heap.size, ?_⟩
  obtain ⟨h1, h2, h3, h4⟩ := hS.env
  have hle : W.heap.size ≤ w'.heap.size := by
    rcases Nat.eq_zero_or_pos W.heap.size with h | h
    · omega
    · have := hS.frm (W.heap.size - 1) _ (Array.getElem?_eq_getElem (xs := W.heap) (by omega))
      have := (Array.getElem?_eq_some_iff.1 this).1
      omega
  have hh : w'.heap = W.heap ++ w'.heap.extract W.heap.size := by
    apply Array.ext_getElem?
    intro i
    by_cases hi : i < W.heap.size
    · rw [Array.getElem?_append_left hi]
      rw [hS.frm i _ (Array.getElem?_eq_getElem hi)]; simp [hi]
    · rw [Array.getElem?_append_right (by omega), Array.getElem?_extract]
      by_cases hj : i < w'.heap.size
      · rw [if_pos (by omega)]; congr 1; omega
      · rw [if_neg (by omega)]; simp; omega
  have hd : w'.drawn = W.drawn + (w'.drawn - W.drawn) := by simp only at h4; omega
  cases w'
  simp only at h1 h2 h3 hh hd
  simp only [Sort.grow, World.drewN, World.mk.injEq]
  exact ⟨hh, h2, hd, h1, h3⟩

theorem val_raws (ρ : Rho) : ∀ l : List Value, valL ρ (l.map .raw) = l
  | [] => rfl
  | v :: l => by simp [valL, V.val, val_raws ρ l]

theorem flatMap_get [Inhabited α] {f : α → List Value} {k : Nat} (hk : ∀ x, (f x).length = k) : ∀ (l : List α) (t : Nat), t < l.length * k → (l.flatMap f)[t]? = (f l[t / k]!)[t % k]?
  | [], t, h => by simp at h
  | x :: l, t, h => by
    rw [List.flatMap_cons]
    have k0 : 0 < k := by rcases Nat.eq_zero_or_pos k with h0 | h0; · subst h0; simp at h
                          · exact h0
    by_cases h1 : t < k
    · rw [List.getElem?_append_left (by rw [hk]; exact h1), Nat.div_eq_of_lt h1, Nat.mod_eq_of_lt h1]; rfl
    · rw [List.getElem?_append_right (by rw [hk]; omega), hk]
      have h2 : t - k < l.length * k := by rw [List.length_cons, Nat.add_mul] at h; omega
      rw [flatMap_get hk l (t - k) h2]
      have e1 : t / k = (t - k) / k + 1 := by rw [← Nat.sub_add_cancel (Nat.le_of_not_lt h1), Nat.add_div_right _ k0]; simp
      have e2 : t % k = (t - k) % k := by rw [Nat.mod_eq_sub_mod (by omega)]
      rw [e1, e2]; simp
theorem flatK_flatMap [Inhabited α] {f : α → List Value} {k : Nat} (hk : ∀ x, (f x).length = k) (l : List α) : Sort.flatK f k l.toArray = (l.flatMap f).toArray := by
  have hlen : ∀ l : List α, (l.flatMap f).length = l.length * k := by
    intro l; induction l with
    | nil => simp
    | cons x l ih => simp [ih, hk, Nat.add_mul]; omega
  apply Array.ext_getElem?
  intro t
  by_cases h : t < l.length * k
  · rw [show (l.flatMap f).toArray[t]? = (l.flatMap f)[t]? from by simp, flatMap_get hk l t h]
    have k0 : 0 < k := by rcases Nat.eq_zero_or_pos k with h0 | h0; · subst h0; simp at h
                          · exact h0
    have := Sort.get_flatK f k l.toArray t (by simpa using h)
    have hs : t < (Sort.flatK f k l.toArray).size := by simpa using h
    rw [getElem!_pos _ t hs] at this
    rw [Array.getElem?_eq_getElem hs, this]
    have hm : t % k < (f l[t / k]!).length := by rw [hk]; exact Nat.mod_lt _ k0
    rw [List.getElem?_eq_getElem hm, getElem!_pos (f l.toArray[t / k]!) _ (by simpa using hm)]
    simp
  · rw [Array.getElem?_eq_none (by simp; omega), Array.getElem?_eq_none (by simp [hlen]; omega)]

theorem flatMap_len {f : α → List Value} {k : Nat} (hk : ∀ x, (f x).length = k) (l : List α) : (l.flatMap f).length = l.length * k := by
  induction l with
  | nil => simp
  | cons x l ih => simp [ih, hk, Nat.add_mul]; omega

/-- The row with ys at o. -/
def rowSet (xs : List Value) (o : Nat) (ys : List Value) : List Value := xs.take o ++ ys ++ xs.drop (o + ys.length)
theorem rowSet_len {xs : List Value} {o : Nat} {ys : List Value} (h : o + ys.length ≤ xs.length) : (rowSet xs o ys).length = xs.length := by
  simp [rowSet]; omega
theorem rowSet_cut {xs : List Value} {o : Nat} {ys : List Value} (h : o + ys.length ≤ xs.length) : ((rowSet xs o ys).drop o).take ys.length = ys := by
  have h1 : (xs.take o).length = o := by simp; omega
  rw [rowSet, List.append_assoc, List.drop_append_of_le_length (by omega), List.drop_eq_nil_of_le (by omega), List.nil_append, List.take_append_of_le_length (by omega), List.take_of_length_le (by omega)]
theorem rowSet_self {xs : List Value} {o n : Nat} (h : o + n ≤ xs.length) : rowSet xs o ((xs.drop o).take n) = xs := by
  have h1 : ((xs.drop o).take n).length = n := by simp; omega
  rw [rowSet, h1, ← List.drop_drop, List.append_assoc, List.take_append_drop, List.take_append_drop]
theorem putCells_rowSet {xs : List Value} {o : Nat} {ys : List Value} (h : o + ys.length ≤ xs.length) : Sort.putCells id o ys.toArray xs.toArray = (rowSet xs o ys).toArray := by
  have h1 : (xs.take o).length = o := by simp; omega
  apply Array.ext_getElem?
  intro t
  simp only [Sort.putCells, Array.getElem?_mapIdx, List.size_toArray, id]
  rw [show (rowSet xs o ys).toArray[t]? = (rowSet xs o ys)[t]? from by simp, show xs.toArray[t]? = xs[t]? from by simp, rowSet, List.append_assoc]
  by_cases h2 : t < o
  · rw [List.getElem?_append_left (by omega), List.getElem?_take_of_lt h2, List.getElem?_eq_getElem (by omega)]
    simp [show ¬ (o ≤ t) by omega]
  · rw [List.getElem?_append_right (by omega), h1]
    by_cases h3 : t < o + ys.length
    · rw [List.getElem?_append_left (by omega), List.getElem?_eq_getElem (by omega), List.getElem?_eq_getElem (by omega)]
      have : t - o < ys.toArray.size := by simp; omega
      simp [show o ≤ t ∧ t < o + ys.length by omega, getElem!_pos ys.toArray (t - o) this]
    · rw [List.getElem?_append_right (by omega), List.getElem?_drop, show o + ys.length + (t - o - ys.length) = t by omega]
      by_cases h4 : t < xs.length
      · rw [List.getElem?_eq_getElem h4]; simp [show ¬ (t < o + ys.length) by omega]
      · rw [List.getElem?_eq_none (by omega)]; rfl

theorem cellsOK_one : ∀ {l : List Value}, cellsOK l = true → ∀ v ∈ l, v.oneCell' = true
  | [], _, v, hv => by simp at hv
  | x :: l, h, v, hv => by
    have h2 : cellsOK l = true ∧ x.oneCell' = true := by
      cases x <;> simp_all [cellsOK, Value.oneCell']
    rcases List.mem_cons.1 hv with rfl | hv
    · exact h2.2
    · exact cellsOK_one h2.1 v hv

theorem array_extract_all (d : Array α) : d.extract 0 d.size = d := by simp

/-- slices.SortFunc at elements of k cells: a permutation, sorted. -/
theorem sortK_ctr [Inhabited α] {r : Shelf.Ren} (L : SlLaysF0.n6 P r) {k : Nat} (aE : ∀ w, (isAgg (r.t 24)).run P w = .ok true w) (zE : ∀ w, (Go.sizeOf (r.t 24)).run P w = .ok k w) {cells : α → List Value} (hk : ∀ x, (cells x).length = k) (k0 : 0 < k)
    (h1 : ∀ x, cellsOK (cells x) = true) (cf : α → α → Int) (hO : Sort.SWO (ltOf cf)) {gq : FuncId} (he : enters P gq = true)
    (hcmp : ∀ x y, Ctr P gq [.agg ((cells x).map .raw), .agg ((cells y).map .raw)] [] (fun v _ => v = .raw (.int .i64 (cf x y))))
    {H : List SO} {j off cap : Nat} {xs : List Value} {e : TypeId} (hj : H[j]? = some (.arr xs e)) (d : List α) (hd : (xs.drop off).take (d.length * k) = d.flatMap cells) (hlen : off + d.length * k ≤ xs.length) (hsz : d.length < 4611686018427387904) :
    Ctr P (r.f 6) [.sl j off d.length cap, .fn gq []] H (fun v H' => v = .tup [] ∧ ∃ d' : List α, d'.Perm d ∧ d'.Pairwise (fun a b => ltOf cf b a = false) ∧ H' = H.set j (.arr (rowSet xs off (d'.flatMap cells)) e)) := by
  intro ρ g w hS hb
  have hjl := (List.getElem?_eq_some_iff.1 hj).1
  have hent := hS.ent j _ hj
  have hfl := flatMap_len hk d
  simp only [valL, V.val]
  rcases hent with ⟨hn, hx⟩ | ⟨b, fr, hρ, hwb, hfr⟩
  · subst hx
    have hd0 : d = [] := by
      cases d with
      | nil => rfl
      | cons x d =>
        have := Nat.mul_pos (show 0 < (x :: d).length by simp) k0
        simp only [List.length_nil] at hlen; omega
    subst hd0
    refine Calls.mono (AnyF.slices_SortFunc_none L _ _ _ w) ?_
    rintro e' w' ⟨rfl, rfl⟩
    refine ⟨ρ, .tup [], H, rfl, hS, fun _ _ => rfl, Nat.le_refl _, rfl, rfl, [], List.Perm.refl _, List.Pairwise.nil, ?_⟩
    have : rowSet [] off (List.flatMap cells []) = [] := by simp [rowSet]
    rw [this]
    apply List.ext_getElem?
    intro i
    by_cases hij : j = i
    · subst hij; rw [List.getElem?_set_self hjl, hj]
    · simp [hij]
  · have hHold : Sort.HoldsK cells k w b off d.toArray := by
      unfold Sort.HoldsK
      rw [flatK_flatMap hk]
      intro i hi
      have hi : i < d.length * k := by simpa [hfl] using hi
      have hg : xs[off + i]? = some ((d.flatMap cells).toArray[i]!) := by
        have hi2 : i < (d.flatMap cells).length := by omega
        have h3 : ((xs.drop off).take (d.length * k))[i]? = (d.flatMap cells)[i]? := by rw [hd]
        rw [List.getElem?_take_of_lt hi, List.getElem?_drop, List.getElem?_eq_getElem hi2] at h3
        rw [h3, getElem!_pos _ _ (by simpa using hi2)]; simp
      constructor
      · rw [cell_of hwb]; simpa using hg
      · have := (List.getElem?_eq_some_iff.1 hg).1
        simp only [World.frozen?, hwb]
        rcases hfr with h5 | h5
        · simp; omega
        · simp; omega
    have hblk : b < w.heap.size := (Array.getElem?_eq_some_iff.1 hwb).1
    rw [show (ρ j).map (fun b => (⟨b, off, none⟩ : Addr)) = some ⟨b, off, none⟩ by rw [hρ]; rfl]
    refine Calls.mono (AnyQ.slices_SortFunc L k aE zE cells hk (fun x => cellsOK_one (h1 x)) cf hO gq #[] b off cap d.toArray w (fun args w => run_enters he args) ?_ hHold hblk (by simpa using hsz)) ?_
    · intro m os dk _ x y
      exact ctr_grows (hcmp x y) _ (by simp [belowL, below, below_raws]) (by simp [valL, V.val, val_raws]) (r := .int .i64 (cf x y)) (by rintro v H ρ' rfl; rfl)
    · rintro e' w' ⟨rfl, d', n, os, hp, hso, rfl⟩
      obtain ⟨hp1, hp2, hp3⟩ := hp
      have hds : d'.size = d.length := by simpa using hp1
      have hperm : d'.toList.Perm d := by
        have e1 : d'.extract 0 d.toArray.size = d' := by rw [List.size_toArray, ← hds]; exact array_extract_all d'
        have e2 : d.toArray.extract 0 d.toArray.size = d.toArray := array_extract_all _
        rw [e1, e2] at hp3
        simpa using hp3
      have hfl' : (d'.toList.flatMap cells).length = d.length * k := by rw [flatMap_len hk, Array.length_toList, hds]
      refine ⟨ρ, .tup [], H.set j (.arr (rowSet xs off (d'.toList.flatMap cells)) e), rfl, ?_, fun _ _ => rfl, by simp, rfl, rfl, d'.toList, hperm, ?_, rfl⟩
      · have hw1 : HeapIs w (Sort.putRowK cells k (Sort.ahead w n) b off d') (w.heap.setIfInBounds b (.cells (rowSet xs off (d'.toList.flatMap cells)).toArray e fr)) := by
          refine ⟨?_, rfl, rfl, rfl, Nat.le_add_right _ _⟩
          show (Sort.putRow id (Sort.ahead w n) b off (Sort.flatK cells k d')).heap = _
          rw [show d' = d'.toList.toArray by simp, flatK_flatMap hk]
          simp only [Sort.putRow, Sort.mapBlock, Sort.ahead]
          apply Array.ext_getElem?
          intro i
          by_cases hi : b = i
          · subst hi
            rw [Array.getElem?_modify, if_pos rfl, hwb]
            simp only [Option.map_some, Sort.onCells, Array.getElem?_setIfInBounds, if_pos hblk]
            rw [putCells_rowSet (by omega)]; simp
          · rw [Array.getElem?_modify, if_neg hi, Array.getElem?_setIfInBounds_ne hi]
        have hS1 := hS.set (so' := .arr (rowSet xs off (d'.toList.flatMap cells)) e) hj rfl rfl hρ hw1
          (.inr ⟨b, fr, hρ, by rw [hw1.1]; simp [hblk], by rw [rowSet_len (by omega)]; exact hfr⟩) (by simp) (by simp)
        exact hS1.grow (os := os) ⟨rfl, rfl, rfl, rfl, Nat.le_refl _⟩
      · rw [List.pairwise_iff_getElem]
        intro i i' hi hi' hlt
        have := hso i i' (Nat.zero_le _) hlt (by simp at hi'; simpa [← hds] using hi')
        simp only [Array.length_toList] at hi hi'
        rw [getElem!_pos d' _ hi', getElem!_pos d' _ hi] at this
        simpa using this
theorem cut_take {α : Type} : ∀ (l : List α) (o n : Nat), o + n ≤ l.length → cut l o n = some ((l.drop o).take n)
  | l, o, 0, _ => by cases l <;> cases o <;> simp [cut]
  | [], o, n + 1, h => by simp at h
  | x :: l, o + 1, n + 1, h => by
    rw [cut, cut_take l o (n + 1) (by simp at h; omega)]; simp
  | x :: l, 0, n + 1, h => by
    rw [cut, cut_take l 0 n (by simp at h; omega)]; simp
end
end Go.V

namespace Go.V
open Go Go.RowKit

/-! ### From a contract to the row's end -/
section
variable {P : Program}
/-- A call whose blocks are all read alone leaves what was there as it was. -/
theorem ctr_below {f : FuncId} {args : List SV} {H : List SO} {Post : SV → List SO → Prop} (h : Ctr P f args H Post) (W : World) (ρ : Rho)
    (hH : ∀ (k : Nat) so, H[k]? = some so → so.isRo = true ∧ entryOK ρ W k so) (ha : belowL H.length args = true) {vs : Array Value} (hv : (valL ρ args).toArray = vs) {r : Value} (hp : ∀ v H ρ', Post v H → val ρ' v = r) :
    Calls P f vs W fun e w' => e = .returned r ∧ Below W.heap.size W w' := by
  subst hv
  have hno : ∀ (k : Nat) so, H[k]? = some so → so.owned = true → False := by
    intro k so hk ho
    have := (hH k so hk).1
    cases so <;> simp_all [SO.isRo, SO.owned]
  have hS : St ρ H ⟨fun b => W.heap[b]?, W.os, W.tape, W.output, W.drawn⟩ W := by
    constructor
    · intro k so hk; exact (hH k so hk).2
    · intro i j si sj b _ hi _ ho; exact (hno i si hi ho).elim
    · intro i j si gh b hi ho; exact (hno i si hi ho).elim
    · exact ⟨rfl, rfl, rfl, Nat.le_refl _⟩
    · intro b o h; exact h
    · intro i si b hi ho; exact (hno i si hi ho).elim
    · intro k l e hk; exact (hno k _ hk rfl).elim
    · intro k m s seen st hk; exact (hno k _ hk rfl).elim
  refine Calls.mono (h ρ _ W hS ha) ?_
  rintro e w' ⟨ρ', v, H', rfl, hS', -, -, -, hP⟩
  obtain ⟨h1, h2, h3, h4⟩ := hS'.env
  have hle : W.heap.size ≤ w'.heap.size := by
    rcases Nat.eq_zero_or_pos W.heap.size with h | h
    · omega
    · have := hS'.frm (W.heap.size - 1) _ (Array.getElem?_eq_getElem (xs := W.heap) (by omega))
      have := (Array.getElem?_eq_some_iff.1 this).1
      omega
  refine ⟨by rw [hp v H' ρ' hP], h1, h2, h3, hle, fun k hk => ?_⟩
  rw [hS'.frm k _ (Array.getElem?_eq_getElem hk)]; simp [hk]

/-- A slice that came in: nil, or in a block. -/
theorem open_sl {t e : TypeId} {W : World} {base : Nat} {a : Option Addr} {len cap : Nat} (ht : P.underlying t = some (.slice e)) (hv : Value.okWide P W .any base t (.slice a len cap)) :
    (a = none ∧ len = 0 ∧ cap = 0) ∨ ∃ b off xs e' fr, a = some ⟨b, off, none⟩ ∧ W.heap[b]? = some (.cells xs e' fr) ∧ len ≤ cap ∧ (cap : Int) ≤ IntKind.i64.max := by
  simp only [Value.okWide, ht, Cell.okWide] at hv
  cases a with
  | none =>
    left
    unfold Cell.ok at hv
    cases len <;> cases cap <;> simp_all
  | some a =>
    right
    unfold Cell.ok at hv
    simp only [ht] at hv
    obtain ⟨h1, h2, _, h3, row, cells, h4, _⟩ := hv
    obtain ⟨b, off, spot⟩ := a
    simp only at h3 h4
    subst h3
    unfold World.shape? at h4
    split at h4
    · rename_i c el fr hb
      exact ⟨b, off, c, el, fr, rfl, hb, h1, h2⟩
    · cases h4
/-- The block that a slice that came in lies in, as a block that is read. -/
def roOf (W : World) (a : Option Addr) : List Value × TypeId := match a with
  | none => ([], 0)
  | some a => match W.heap[a.block]? with
    | some (.cells xs e _) => (xs.toList, e)
    | _ => ([], 0)
def slOf (k : Nat) (a : Option Addr) (len cap : Nat) : SV := .sl k (match a with | none => 0 | some a => a.off) len cap
end
end Go.V

namespace Go.V
open Go Go.RowKit Go.ChangeShapes Go.WideShapes

/-! ### Arguments that come in -/
section
variable {P : Program} {H : Type} {enc : TypeId × Value → H} {W : World}

def roOK (W : World) (bo : Option Nat) (xs : List Value) (te : TypeId) : Prop := (bo = none ∧ xs = []) ∨ ∃ b fr, bo = some b ∧ W.heap[b]? = some (.cells xs.toArray te fr)

def pcl (k0 k1 : IntKind) (x : Int × Int) : List Value := [.int k0 x.1, .int k1 x.2]

/-- A slice of structs of two integers. -/
theorem open_pairs {t e : TypeId} {f0 f1 : Field} {k0 k1 : IntKind} {base : Nat} {a : Option Addr} {len cap : Nat} {d : DataW H} {p : List MemPlace} (ht : P.underlying t = some (.slice e)) (he : P.underlying e = some (.struct #[f0, f1]))
    (ce : P.cellsOf e = 2) (o0 : f0.offset = 0) (o1 : f1.offset = 1) (c0 : P.cellsOf f0.type = 1) (c1 : P.cellsOf f1.type = 1) (u0 : P.underlying f0.type = some (.int k0)) (u1 : P.underlying f1.type = some (.int k1))
    (hval : Value.okWide P W .any base t (.slice a len cap)) (h : DataW.Trod enc P W 0 (fun _ => true) true t (.slice a len cap) d p) :
    ∃ (ds : List (Int × Int)) (xs : List Value) (te : TypeId) (o : Nat) (bo : Option Nat), ds.length = len ∧ roOK W bo xs te ∧ bo.map (fun b => (⟨b, o, none⟩ : Addr)) = a ∧ len ≤ cap ∧
      (∀ x ∈ ds, (Lit.int k0 x.1).wf = true ∧ (Lit.int k1 x.2).wf = true) ∧ (0 < ds.length → o + ds.length * 2 ≤ xs.length ∧ (xs.drop o).take (ds.length * 2) = ds.flatMap (pcl k0 k1)) := by
  rcases open_sl ht hval with ⟨rfl, rfl, rfl⟩ | ⟨b, o, xs, te, fr, rfl, hb, hlc, _⟩
  · exact ⟨[], [], 0, 0, none, rfl, .inl ⟨rfl, rfl⟩, rfl, Nat.le_refl _, by simp, by simp⟩
  obtain ⟨fuel, hf⟩ := h
  rcases Go.Deep.open_slice_pairs ht he ce o0 o1 c0 c1 hf with ⟨hcs, _⟩ | ⟨a, l, c, m, n, V0, V1, D0, D1, P0, P1, hcs, _, hl, _, hm, _, hx⟩
  · simp [Value.cells] at hcs
  · simp only [Value.cells, List.cons.injEq, Value.slice.injEq, Option.some.injEq, and_true] at hcs
    obtain ⟨rfl, rfl, rfl⟩ := hcs
    simp only [if_true] at hm
    subst hm
    have each : ∀ i, i < m → ∃ q : Int × Int, xs[o + i * 2]? = some (.int k0 q.1) ∧ xs[o + i * 2 + 1]? = some (.int k1 q.2) ∧ (Lit.int k0 q.1).wf = true ∧ (Lit.int k1 q.2).wf = true := by
      intro i hi
      obtain ⟨g0, g1, g2, g3⟩ := hx i hi
      obtain ⟨x, e0, _, w0⟩ := DataW.trod_int u0 g2
      obtain ⟨y, e1, _, w1⟩ := DataW.trod_int u1 g3
      simp only [List.cons.injEq, and_true] at e0 e1
      rw [e0, add_eq, cell_of hb] at g0
      rw [e1, add_eq, cell_of hb] at g1
      exact ⟨(x, y), g0, by rw [Nat.add_assoc]; exact g1, w0, w1⟩
    obtain ⟨q, hq⟩ := Go.Deep.choose_lt each
    refine ⟨(List.range len).map q, xs.toList, te, o, some b, by simp, .inr ⟨b, fr, rfl, by simpa using hb⟩, rfl, hl, ?_, ?_⟩
    · intro x hx
      obtain ⟨i, hi, rfl⟩ := List.mem_map.1 hx
      have := hq i (by have := List.mem_range.1 hi; omega)
      exact ⟨this.2.2.1, this.2.2.2⟩
    · simp only [List.length_map, List.length_range]
      intro hpos
      have hlast := (hq (len - 1) (by omega)).2.1
      have hsz := (Array.getElem?_eq_some_iff.1 hlast).1
      have hbnd : o + len * 2 ≤ xs.toList.length := by simp; omega
      refine ⟨hbnd, ?_⟩
      have hk : ∀ x : Int × Int, (pcl k0 k1 x).length = 2 := fun _ => rfl
      apply List.ext_getElem?
      intro t
      by_cases ht : t < len * 2
      · rw [List.getElem?_take_of_lt ht, List.getElem?_drop, flatMap_get hk _ t (by simpa using ht)]
        have hi : t / 2 < len := by omega
        have hqi := hq (t / 2) (by omega)
        have hgi : ((List.range len).map q)[t / 2]! = q (t / 2) := by rw [getElem!_pos _ _ (by simpa using hi)]; simp
        rw [hgi]
        rcases Nat.mod_two_eq_zero_or_one t with h0 | h0
        · rw [h0, show o + t = o + t / 2 * 2 by omega]; simpa [pcl] using hqi.1
        · rw [h0, show o + t = o + t / 2 * 2 + 1 by omega]; simpa [pcl] using hqi.2.1
      · rw [List.getElem?_eq_none (by simp; omega), List.getElem?_eq_none (by rw [flatMap_len hk]; simp; omega)]
end
end Go.V

namespace Go.V
open Go Go.Proofs
/-! ### maps.Clone, by the library's law -/
theorem clone_ctr {P : Program} {r : Shelf.Ren} (L : SlLaysW.n5 P r) (es : List MapEntry) (c : Nat) : Ctr P (r.f 5) [.mp 0] [.map es c] (fun x H => x = .mp 1 ∧ H = [.map es c, .map es c]) := by
  intro ρ g w hS hb
  obtain ⟨b, hρ, hw⟩ := hS.ent 0 _ rfl
  simp only [valL, V.val, hρ]
  refine Calls.mono (AnyW.maps_Clone L b es.toArray c w hw) ?_
  rintro e w' ⟨rfl, rfl⟩
  refine ⟨upd ρ 1 (some w.heap.size), .mp 1, [.map es c, .map es c], by simp [V.val, upd], ?_, fun k hk => upd_lt ρ _ (by simpa using hk), by simp, rfl, rfl, rfl⟩
  exact hS.alloc (so := .map es c) (o := .map es.toArray c) ⟨rfl, rfl, rfl, rfl, Nat.le_refl _⟩ rfl ⟨w.heap.size, upd_same _ _ _, heap_push_new rfl⟩ (by simp) (by simp)
end Go.V

namespace Go.V
open Go Go.RowKit Go.ChangeShapes Go.WideShapes
section
variable {P : Program} {H : Type} {enc : TypeId × Value → H} {W : World}

/-- A slice of integers that came in. -/
theorem open_ints {t e : TypeId} {k : IntKind} {base : Nat} {a : Option Addr} {len cap : Nat} {d : DataW H} {p : List MemPlace} (ht : P.underlying t = some (.slice e)) (he : P.underlying e = some (.int k))
    (ce : P.cellsOf e = 1)
    (hval : Value.okWide P W .any base t (.slice a len cap)) (h : DataW.Trod enc P W 0 (fun _ => true) true t (.slice a len cap) d p) :
    ∃ (L : List Int) (xs : List Value) (te : TypeId) (o : Nat) (bo : Option Nat), L.length = len ∧ roOK W bo xs te ∧ bo.map (fun b => (⟨b, o, none⟩ : Addr)) = a ∧ len ≤ cap ∧
      (∀ x ∈ L, (Lit.int k x).wf = true) ∧ ((0 < L.length → o + L.length ≤ xs.length) ∧ (xs.drop o).take L.length = L.map (Value.int k)) := by
  obtain ⟨fuel, hf⟩ := h
  rcases open_sl ht hval with ⟨rfl, rfl, rfl⟩ | ⟨b, o, xs, te, fr, rfl, hb, hlc, _⟩
  · exact ⟨[], [], 0, 0, none, rfl, .inl ⟨rfl, rfl⟩, rfl, Nat.le_refl _, by simp, by simp⟩
  rcases Go.Deep.open_slice1 ht ce hf with ⟨hcs, _⟩ | ⟨a, l, c, m, n, V0, D0, P0, hcs, _, hl, _, hm, _, hx⟩
  · simp [Value.cells] at hcs
  · simp only [Value.cells, List.cons.injEq, Value.slice.injEq, Option.some.injEq, and_true] at hcs
    obtain ⟨rfl, rfl, rfl⟩ := hcs
    simp only [if_true] at hm
    subst hm
    have each : ∀ i, i < m → ∃ q : Int, xs[o + i]? = some (.int k q) ∧ (Lit.int k q).wf = true := by
      intro i hi
      obtain ⟨g0, g2⟩ := hx i hi
      obtain ⟨x, e0, _, w0⟩ := DataW.trod_int he g2
      simp only [List.cons.injEq, and_true] at e0
      rw [e0, add_eq, cell_of hb] at g0
      exact ⟨x, g0, w0⟩
    obtain ⟨q, hq⟩ := Go.Deep.choose_lt each
    refine ⟨(List.range len).map q, xs.toList, te, o, some b, by simp, .inr ⟨b, fr, rfl, by simpa using hb⟩, rfl, hl, ?_, ?_⟩
    · intro x hx
      obtain ⟨i, hi, rfl⟩ := List.mem_map.1 hx
      exact (hq i (by have := List.mem_range.1 hi; omega)).2
    · simp only [List.length_map, List.length_range]
      refine ⟨fun hpos => ?_, ?_⟩
      · have hlast := (hq (len - 1) (by omega)).1
        have hsz := (Array.getElem?_eq_some_iff.1 hlast).1
        simp; omega
      apply List.ext_getElem?
      intro t
      by_cases ht : t < len
      · rw [List.getElem?_take_of_lt ht, List.getElem?_drop]
        have hqi := hq t (by omega)
        simp only [List.getElem?_map, List.getElem?_range ht, Option.map_some]
        simpa using hqi.1
      · rw [List.getElem?_eq_none (by simp; omega), List.getElem?_eq_none (by simp; omega)]
end
end Go.V

namespace Go.V
open Go
/-! ### Going through a map: which entries were met -/
section
variable {K V : Type} {enc : K → Value} {encv : V → Value}
theorem born_ents (ms : List (K × V × Nat)) : (ents enc encv ms).map (·.born) = ms.map (·.2.2) := by
  simp only [ents, List.map_map]; rfl
theorem trip_inj {ms : List (K × V × Nat)} (hnd : (ms.map (·.2.2)).Nodup) {x y : K × V × Nat} (hx : x ∈ ms) (hy : y ∈ ms) (h : x.2.2 = y.2.2) : x = y := by
  induction ms with
  | nil => simp at hx
  | cons z ms ih =>
    simp only [List.map_cons, List.nodup_cons] at hnd
    rcases List.mem_cons.1 hx with h1 | h1 <;> rcases List.mem_cons.1 hy with h2 | h2
    · rw [h1, h2]
    · exact absurd (List.mem_map.2 ⟨y, h2, by rw [← h, h1]⟩) hnd.1
    · exact absurd (List.mem_map.2 ⟨x, h1, by rw [h, h2]⟩) hnd.1
    · exact ih hnd.2 h1 h2
theorem find_ents {ms : List (K × V × Nat)} (hnd : (ms.map (·.2.2)).Nodup) {x : K × V × Nat} (hx : x ∈ ms) : (ents enc encv ms).find? (·.born == x.2.2) = some (ent enc encv x) :=
  find_born (e := ent enc encv x) (by rw [born_ents]; exact hnd) (List.mem_map.2 ⟨x, hx, rfl⟩)
/-- Those met: each once, all of the map. -/
structure Been (ms : List (K × V × Nat)) (pre : List (K × V × Nat)) (seen : List Nat) : Prop where
  eq : seen = pre.map (·.2.2)
  nd : seen.Nodup
  sub : ∀ x, x ∈ pre → x ∈ ms
theorem Been.nil (ms : List (K × V × Nat)) : Been ms [] [] := ⟨rfl, List.nodup_nil, by simp⟩
theorem Been.more {ms pre : List (K × V × Nat)} {seen : List Nat} (h : Been ms pre seen) {x : K × V × Nat} (hx : x ∈ ms) (hn : x.2.2 ∉ seen) : Been ms (pre ++ [x]) (seen ++ [x.2.2]) where
  eq := by rw [h.eq]; simp
  nd := by
    rw [List.nodup_append]
    refine ⟨h.nd, by simp, fun a ha b hb => ?_⟩
    simp at hb; subst hb
    rintro rfl; exact hn ha
  sub := fun y hy => by
    rcases List.mem_append.1 hy with h1 | h1
    · exact h.sub y h1
    · simp at h1; exact h1 ▸ hx
theorem Been.len [DecidableEq K] [DecidableEq V] {ms pre : List (K × V × Nat)} {seen : List Nat} (h : Been ms pre seen) {x : K × V × Nat} (hx : x ∈ ms) (hn : x.2.2 ∉ seen) : ms.length - (pre ++ [x]).length < ms.length - pre.length := by
  have hnp : (pre ++ [x]).Nodup := by
    have := (h.more hx hn).nd
    rw [(h.more hx hn).eq] at this
    exact nodup_of_map _ this
  have := nodup_len hnp (fun y hy => (h.more hx hn).sub y hy)
  simp only [List.length_append, List.length_cons, List.length_nil] at this ⊢; omega
theorem Been.all {ms pre : List (K × V × Nat)} {seen : List Nat} (h : Been ms pre seen) (hnd : (ms.map (·.2.2)).Nodup) {x : K × V × Nat} (hx : x ∈ ms) (hs : x.2.2 ∈ seen) : x ∈ pre := by
  rw [h.eq] at hs
  obtain ⟨y, hy, hyx⟩ := List.mem_map.1 hs
  rw [trip_inj hnd hx (h.sub y hy) hyx.symm]; exact hy
theorem last_snoc (l : List Nat) (n : Nat) : (l ++ [n]).getLast? = some n := by simp
end
end Go.V

namespace Go.V
open Go
/-! ### Bytes, and numbers in bytes -/
theorem w8 (u : Nat) : IntKind.u8.wrap (u : Int) = ((u % 256 : Nat) : Int) := by
  simp [IntKind.wrap, IntKind.bits, IntKind.signed]
theorem or8 (u : Nat) : intBits .or .u8 ((u % 256 : Nat) : Int) 128 = ((u % 128 + 128 : Nat) : Int) := by
  have h : ∀ k, k < 256 → intBits .or .u8 ((k : Nat) : Int) 128 = ((k % 128 + 128 : Nat) : Int) := by decide +kernel
  rw [h (u % 256) (by omega)]; congr 1; omega
theorem sh7 (u : Nat) : (u : Int).fdiv (2 ^ (min (7 : Int).toNat IntKind.u64.bits)) = ((u / 128 : Nat) : Int) := by
  have : (2 : Int) ^ (min (7 : Int).toNat IntKind.u64.bits) = ((128 : Nat) : Int) := by decide
  rw [this, Int.fdiv_eq_ediv_of_nonneg _ (by omega)]; rfl
theorem w64u {n : Int} (h : 0 ≤ n ∧ n < 18446744073709551616) : IntKind.u64.wrap n = n := by
  simp [IntKind.wrap, IntKind.bits, IntKind.signed]; omega
theorem shl1 {v : Int} (h : 0 ≤ v ∧ v < 4611686018427387904) : IntKind.u64.wrap (v * 2 ^ (min (1 : Int).toNat IntKind.u64.bits)) = ((2 * v.toNat : Nat) : Int) := by
  have : (2 : Int) ^ (min (1 : Int).toNat IntKind.u64.bits) = 2 := by decide
  rw [this, w64u (by omega)]; omega
theorem shr63 {v : Int} (h : 0 ≤ v ∧ v < 4611686018427387904) : v.fdiv (2 ^ (min (63 : Int).toNat IntKind.i64.bits)) = 0 := by
  have : (2 : Int) ^ (min (63 : Int).toNat IntKind.i64.bits) = 9223372036854775808 := by decide
  rw [this, Int.fdiv_eq_ediv_of_nonneg _ (by omega)]; omega
theorem xor0 {u : Nat} (h : u < 18446744073709551616) : intBits .xor .u64 (u : Int) 0 = (u : Int) := by
  show IntKind.u64.wrap (((BitVec.ofInt 64 (u : Int) ^^^ BitVec.ofInt 64 0).toNat : Nat) : Int) = u
  have e : (BitVec.ofInt 64 (u : Int) ^^^ BitVec.ofInt 64 0) = BitVec.ofNat 64 u := by simp
  rw [e, BitVec.toNat_ofNat, w64u (by omega)]; omega

/-- A number's bytes. -/
def numB (u : Nat) : List Int := if u < 128 then [(u : Int)] else ((u % 128 + 128 : Nat) : Int) :: numB (u / 128)
theorem numB_lt {u : Nat} (h : u < 128) : numB u = [(u : Int)] := by rw [numB, if_pos h]
theorem numB_ge {u : Nat} (h : ¬ u < 128) : numB u = ((u % 128 + 128 : Nat) : Int) :: numB (u / 128) := by rw [numB, if_neg h]
theorem numB_len : ∀ (k u : Nat), u < 128 ^ (k + 1) → (numB u).length ≤ k + 1
  | 0, u, h => by rw [numB_lt (by simpa using h)]; simp
  | k + 1, u, h => by
    by_cases h1 : u < 128
    · rw [numB_lt h1]; simp
    · rw [numB_ge h1, List.length_cons]
      have : u / 128 < 128 ^ (k + 1) := by rw [Nat.div_lt_iff_lt_mul (by omega)]; rw [Nat.pow_succ] at h; omega
      have := numB_len k (u / 128) this
      omega
theorem numB_len10 {u : Nat} (h : u < 18446744073709551616) : (numB u).length ≤ 10 := numB_len 9 u (by omega)

/-- A row of bytes in cells. -/
def Brow (xs : List Value) (o c : Nat) (l : List Int) : Prop := l.length ≤ c ∧ o + c ≤ xs.length ∧ (xs.drop o).take l.length = l.map (Value.int .u8)
theorem Brow.take1 {xs : List Value} {o c : Nat} {l : List Int} (h : Brow xs o c l) : (xs.drop o).take (l.length * 1) = l.map (Value.int .u8) := by rw [Nat.mul_one]; exact h.2.2
theorem cellsOK_ints {k : IntKind} : ∀ (l : List Int), cellsOK (l.map (Value.int k)) = true
  | [] => rfl
  | x :: l => by simp [cellsOK, cellsOK_ints l]
end Go.V
namespace Go.V
open Go
theorem rem128 (u : Nat) : (u : Int).tmod 128 = ((u % 128 : Nat) : Int) := by
  rw [show (128 : Int) = ((128 : Nat) : Int) from rfl, ← Int.ofNat_tmod]
theorem quo128 (u : Nat) (h : u < 18446744073709551616) : IntKind.u64.wrap ((u : Int).tdiv 128) = ((u / 128 : Nat) : Int) := by
  rw [show (128 : Int) = ((128 : Nat) : Int) from rfl, ← Int.ofNat_tdiv, w64u (by omega)]
theorem w8r (u : Nat) : IntKind.u8.wrap ((u % 128 : Nat) : Int) = ((u % 128 : Nat) : Int) := by rw [w8]; congr 1; omega
theorem add128 (u : Nat) : IntKind.u8.wrap (((u % 128 : Nat) : Int) + 128) = ((u % 128 + 128 : Nat) : Int) := by
  have := w8 (u % 128 + 128)
  rw [show ((u % 128 : Nat) : Int) + 128 = ((u % 128 + 128 : Nat) : Int) by omega, this]; congr 1; omega
end Go.V

namespace Go.V
open Go
/-! ### Numbers out of bytes -/
theorem andNot8 {c : Nat} (h : c < 256) : intBits .andNot .u8 (c : Int) 128 = ((c % 128 : Nat) : Int) := by
  have : ∀ k, k < 256 → intBits .andNot .u8 ((k : Nat) : Int) 128 = ((k % 128 : Nat) : Int) := by decide +kernel
  exact this c h
theorem and127 {c : Nat} (h : c < 256) : intBits .and .u8 (c : Int) 127 = ((c % 128 : Nat) : Int) := by
  have : ∀ k, k < 256 → intBits .and .u8 ((k : Nat) : Int) 127 = ((k % 128 : Nat) : Int) := by decide +kernel
  exact this c h
theorem and128 {c : Nat} (h : c < 256) : intBits .and .u8 (c : Int) 128 = ((if 128 ≤ c then 128 else 0 : Nat) : Int) := by
  have : ∀ k, k < 256 → intBits .and .u8 ((k : Nat) : Int) 128 = ((if 128 ≤ k then 128 else 0 : Nat) : Int) := by decide +kernel
  exact this c h
theorem shl7 (x : Nat) {i : Nat} (h : i ≤ 9) : IntKind.u64.wrap ((x : Int) * 2 ^ (min ((7 * i : Nat) : Int).toNat IntKind.u64.bits)) = (((x * 2 ^ (7 * i)) % 18446744073709551616 : Nat) : Int) := by
  have h1 : min ((7 * i : Nat) : Int).toNat IntKind.u64.bits = 7 * i := by
    show min (7 * i) 64 = 7 * i
    omega
  rw [h1]
  simp [IntKind.wrap, IntKind.bits, IntKind.signed]
theorem orBound {u x i : Nat} (hi : i ≤ 9) (hu : u < 2 ^ (7 * i)) (hx : x * 2 ^ (7 * i) < 18446744073709551616) : u + x * 2 ^ (7 * i) < 18446744073709551616 := by
  have hd : ∀ i, i < 10 → 18446744073709551616 % 2 ^ (7 * i) = 0 := by decide +kernel
  obtain ⟨q, hq⟩ := Nat.dvd_of_mod_eq_zero (hd i (by omega))
  generalize 2 ^ (7 * i) = k at *
  rw [hq] at hx ⊢
  have h1 : x < q := Nat.lt_of_mul_lt_mul_left (a := k) (by rw [Nat.mul_comm k x]; exact hx)
  have h2 : k * (x + 1) ≤ k * q := Nat.mul_le_mul_left k h1
  rw [Nat.mul_add, Nat.mul_one, Nat.mul_comm k x] at h2
  omega
theorem orAdd {u x i : Nat} (hi : i ≤ 9) (hu : u < 2 ^ (7 * i)) (hx : x * 2 ^ (7 * i) < 18446744073709551616) : intBits .or .u64 (u : Int) ((x * 2 ^ (7 * i) : Nat) : Int) = ((u + x * 2 ^ (7 * i) : Nat) : Int) := by
  show IntKind.u64.wrap (((BitVec.ofInt 64 (u : Int) ||| BitVec.ofInt 64 ((x * 2 ^ (7 * i) : Nat) : Int)).toNat : Nat) : Int) = _
  have hor : u ||| x * 2 ^ (7 * i) = u + x * 2 ^ (7 * i) := by
    rw [Nat.or_comm, Nat.mul_comm x, ← Nat.two_pow_add_eq_or_of_lt hu, Nat.add_comm]
  have hb : u + x * 2 ^ (7 * i) < 18446744073709551616 := by
    have hd : ∀ i, i < 10 → 18446744073709551616 % 2 ^ (7 * i) = 0 := by decide +kernel
    obtain ⟨q, hq⟩ := Nat.dvd_of_mod_eq_zero (hd i (by omega))
    generalize 2 ^ (7 * i) = k at *
    rw [hq] at hx ⊢
    have h1 : x < q := Nat.lt_of_mul_lt_mul_left (a := k) (by rw [Nat.mul_comm k x]; exact hx)
    have h2 : k * (x + 1) ≤ k * q := Nat.mul_le_mul_left k h1
    rw [Nat.mul_add, Nat.mul_one, Nat.mul_comm k x] at h2
    omega
  rw [BitVec.ofInt_natCast, BitVec.ofInt_natCast, BitVec.toNat_or, BitVec.toNat_ofNat, BitVec.toNat_ofNat, Nat.mod_eq_of_lt (by omega), Nat.mod_eq_of_lt (by omega), hor, w64u (by omega)]
theorem shr1 (u : Nat) : (u : Int).fdiv (2 ^ (min (1 : Int).toNat IntKind.u64.bits)) = ((u / 2 : Nat) : Int) := by
  have : (2 : Int) ^ (min (1 : Int).toNat IntKind.u64.bits) = ((2 : Nat) : Int) := by decide
  rw [this, Int.fdiv_eq_ediv_of_nonneg _ (by omega)]; rfl
theorem and1 {u : Nat} (h : u < 18446744073709551616) : intBits .and .u64 (u : Int) 1 = ((u % 2 : Nat) : Int) := by
  show IntKind.u64.wrap (((BitVec.ofInt 64 (u : Int) &&& BitVec.ofInt 64 1).toNat : Nat) : Int) = _
  rw [BitVec.ofInt_natCast, show BitVec.ofInt 64 1 = BitVec.ofNat 64 1 from rfl, BitVec.toNat_and, BitVec.toNat_ofNat, BitVec.toNat_ofNat, Nat.mod_eq_of_lt h, show (1 % 2 ^ 64 : Nat) = 1 by decide, Nat.and_one_is_mod, w64u (by omega)]
theorem xorZig {u : Nat} (h : u < 18446744073709551616) : intBits .xor .i64 ((u / 2 : Nat) : Int) (IntKind.i64.wrap (0 - ((u % 2 : Nat) : Int))) = (if u % 2 = 1 then -1 - ((u / 2 : Nat) : Int) else ((u / 2 : Nat) : Int)) := by
  have w : ∀ n : Int, -9223372036854775808 ≤ n ∧ n ≤ 9223372036854775807 → IntKind.i64.wrap n = n := fun n hn => IntWalk.i64_in n hn
  rcases Nat.mod_two_eq_zero_or_one u with h0 | h0
  · rw [h0, if_neg (by omega), w _ (by omega)]
    show IntKind.i64.wrap (((BitVec.ofInt 64 ((u / 2 : Nat) : Int) ^^^ BitVec.ofInt 64 (0 - ((0 : Nat) : Int))).toNat : Nat) : Int) = _
    have e : (BitVec.ofInt 64 ((u / 2 : Nat) : Int) ^^^ BitVec.ofInt 64 (0 - ((0 : Nat) : Int))) = BitVec.ofNat 64 (u / 2) := by
      rw [BitVec.ofInt_natCast, show BitVec.ofInt 64 (0 - ((0 : Nat) : Int)) = 0#64 from rfl, BitVec.xor_zero]
    rw [e, BitVec.toNat_ofNat, Nat.mod_eq_of_lt (by omega), w _ (by omega)]
  · rw [h0, if_pos rfl, w (0 - ((1 : Nat) : Int)) (by omega)]
    show IntKind.i64.wrap (((BitVec.ofInt 64 ((u / 2 : Nat) : Int) ^^^ BitVec.ofInt 64 (0 - ((1 : Nat) : Int))).toNat : Nat) : Int) = _
    have e : (BitVec.ofInt 64 ((u / 2 : Nat) : Int) ^^^ BitVec.ofInt 64 (0 - ((1 : Nat) : Int))) = ~~~ (BitVec.ofNat 64 (u / 2)) := by
      rw [BitVec.ofInt_natCast, show BitVec.ofInt 64 (0 - ((1 : Nat) : Int)) = BitVec.allOnes 64 from rfl, BitVec.xor_allOnes]
    rw [e, BitVec.toNat_not, BitVec.toNat_ofNat, Nat.mod_eq_of_lt (by omega)]
    simp only [IntKind.wrap, IntKind.bits, IntKind.signed]
    simp
    omega
def zig (u : Nat) : Int := if u % 2 = 1 then -1 - (u / 2 : Nat) else ((u / 2 : Nat) : Int)

/-- A number's groups: its value, and what is behind it. -/
def rd : List Int → Nat → Nat → Option (Nat × List Int)
  | [], _, _ => none
  | c :: l, i, u =>
    if 10 ≤ i then none
    else if 128 ≤ c then rd l (i + 1) (u + (c.toNat % 128) * 2 ^ (7 * i))
    else if (0 < i ∧ c = 0) ∨ (i = 9 ∧ 1 < c) then none
    else some (u + c.toNat * 2 ^ (7 * i), l)
def rdN (l : List Int) (least most : Int) : Option (Int × List Int) :=
  match rd l 0 0 with
  | none => none
  | some (u, l') => if zig u < least ∨ most < zig u then none else some (zig u, l')
end Go.V

