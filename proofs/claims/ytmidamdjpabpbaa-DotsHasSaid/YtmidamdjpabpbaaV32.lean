/- Part of the proof that the statement named in the last file holds: lemmas of the prover's own. No conditions. -/
import Derived.Test.YtmidamdjpabpbaaV31
namespace Go.V
open Go

theorem born_inj {es : List MapEntry} (hnd : (es.map (·.born)).Nodup) : ∀ {x y : MapEntry}, x ∈ es → y ∈ es → x.born = y.born → x = y := by
  induction es with
  | nil => intro x y hx; simp at hx
  | cons z es ih =>
    simp only [List.map_cons, List.nodup_cons] at hnd
    intro x y hx hy hxy
    rcases List.mem_cons.1 hx with h1 | h1 <;> rcases List.mem_cons.1 hy with h2 | h2
    · rw [h1, h2]
    · exact absurd (List.mem_map.2 ⟨y, h2, by rw [← hxy, h1]⟩) hnd.1
    · exact absurd (List.mem_map.2 ⟨x, h1, by rw [hxy, h2]⟩) hnd.1
    · exact ih hnd.2 h1 h2 hxy
theorem nodup_len {A : Type} [DecidableEq A] : ∀ {l m : List A}, l.Nodup → l ⊆ m → l.length ≤ m.length
  | [], _, _, _ => by simp
  | x :: l, m, hn, hs => by
    have hx : x ∈ m := hs (by simp)
    simp only [List.nodup_cons] at hn
    have h1 : l ⊆ m.erase x := by
      intro y hy
      have : y ≠ x := by rintro rfl; exact hn.1 hy
      exact (List.mem_erase_of_ne this).2 (hs (by simp [hy]))
    have h2 := nodup_len hn.2 h1
    have h3 := List.length_pos_of_mem hx
    rw [List.length_erase_of_mem hx] at h2
    simp only [List.length_cons]; omega
theorem nodup_of_map {A B : Type} (f : A → B) : ∀ {l : List A}, (l.map f).Nodup → l.Nodup
  | [], _ => List.nodup_nil
  | x :: l, h => by
    simp only [List.map_cons, List.nodup_cons] at h
    exact List.nodup_cons.2 ⟨fun hx => h.1 (List.mem_map.2 ⟨x, hx, rfl⟩), nodup_of_map f h.2⟩
theorem perm_born {es pre : List MapEntry} (hnd : (es.map (·.born)).Nodup) (hndp : (pre.map (·.born)).Nodup) (hsub : ∀ e, e ∈ pre → e ∈ es) (hall : ∀ e, e ∈ es → e.born ∈ pre.map (·.born)) : pre.Perm es := by
  refine (List.perm_ext_iff_of_nodup (nodup_of_map _ hndp) (nodup_of_map _ hnd)).2 fun e => ⟨hsub e, fun he => ?_⟩
  obtain ⟨p, hp, hpe⟩ := List.mem_map.1 (hall e he)
  rw [← born_inj hnd (hsub p hp) he hpe]; exact hp
theorem find_born {es : List MapEntry} (hnd : (es.map (·.born)).Nodup) {e : MapEntry} (he : e ∈ es) : es.find? (·.born == e.born) = some e := by
  cases hf : es.find? (·.born == e.born) with
  | none =>
    have := List.find?_eq_none.1 hf e he
    simp at this
  | some x =>
    have h1 := List.find?_some hf
    have h2 := List.mem_of_find?_eq_some hf
    rw [born_inj hnd h2 he (by simpa using h1)]
theorem len_born {es pre : List MapEntry} (hndp : (pre.map (·.born)).Nodup) (hsub : ∀ e, e ∈ pre → e ∈ es) {e : MapEntry} (he : e ∈ es) (hne : e.born ∉ pre.map (·.born)) : pre.length < es.length := by
  have hn : (pre ++ [e]).Nodup := by
    rw [List.nodup_append]
    refine ⟨nodup_of_map _ hndp, by simp, fun x hx y hy => ?_⟩
    simp at hy; subst hy
    rintro rfl; exact hne (List.mem_map.2 ⟨x, hx, rfl⟩)
  have hs : (pre ++ [e]) ⊆ es := by
    intro x hx
    rcases List.mem_append.1 hx with h1 | h1
    · exact hsub x h1
    · simp at h1; exact h1 ▸ he
  classical
  have := nodup_len hn hs
  simp only [List.length_append, List.length_cons, List.length_nil] at this; omega

section
variable {P : Program} {α : Type} {tE : TypeId} {n : Option Nat} {sz by' : Nat} {zs : List Value} {sv : α → SV} {cells : α → List Value}

theorem St.names {ρ ρ' : Rho} {H : List SO} {g : Fr} {w : World} (h : St ρ H g w) (hr : ∀ k, k < H.length → ρ' k = ρ k) : St ρ' H g w := by
  have hlt : ∀ {i : Nat} {s : SO}, H[i]? = some s → i < H.length := fun hi => (List.getElem?_eq_some_iff.1 hi).1
  constructor
  · intro k s hk
    refine entryOK_congr (hlt hk) (h.ent k s hk) hr ?_ ?_ (fun b o _ hb _ _ => hb)
    · rintro l e rfl; exact h.scp k l e hk
    · rintro m s' seen st rfl; exact h.sci k m s' seen st hk
  · intro i j si sj b hij hi hj ho hoj hb
    rw [hr i (hlt hi)] at hb; rw [hr j (hlt hj)]
    exact h.dis i j si sj b hij hi hj ho hoj hb
  · intro i j si gh b hi ho hj hb
    rw [hr i (hlt hi)] at hb
    exact h.gho i j si gh b hi ho hj hb
  · exact h.env
  · exact h.frm
  · intro i si b hi ho hb
    rw [hr i (hlt hi)] at hb
    exact h.frd i si b hi ho hb
  · exact h.scp
  · exact h.sci

theorem it_gives {f : FuncId} {which : Nat} (h : Elem P tE n sz by' zs sv cells) (hit : IsIt P f tE n zs which) {tB : TypeId} {es : List MapEntry} {c : Nat} (elt : MapEntry → α)
    (hel : ∀ e, e ∈ es → [svConst e.key, svConst e.val][which]? = some (sv (elt e))) (hborn : ∀ e, e ∈ es → e.born < c) (hnd : (es.map (·.born)).Nodup) :
    Gives P f [.ptr 0 0] [.cells [.mp 1] tB, .map es c] (fun x => V.val (fun _ => none) (sv x)) (fun xs => ∃ order : List MapEntry, order.Perm es ∧ xs = order.map elt) es.length := by
  obtain ⟨fn, i0, i1, i2, i3, b0, b1, ops0, ops1, ops2, ops3, hf, hbody, c0, c1, c2, c3, hnt, hres⟩ := hit
  intro l J ρ g W hS hb hJ hR
  refine (callsIn_wide (n := 0)).1 (callsIn_of_wp hf hbody trivial ?_ rfl)
  have hA : At P ρ [.cells [.mp 1] tB, .map es c] g W [.raw (.func (.yield l) #[] #[]), .ptr 0 0, un, un, un, un, un, un, un, un, un, un, un, un]
      { tmps := (#[Value.func (.yield l) #[] #[]] ++ (valL ρ [.ptr 0 0]).toArray) ++ Array.replicate (fn.ntmps - (#[Value.func (.yield l) #[] #[]] ++ (valL ρ [.ptr 0 0]).toArray).size) undef, defers := [] } := by
    refine ⟨?_, by simp [belowL, below], hS⟩
    simp only [Frm, hnt]
    apply Array.toList_inj.1
    simp [valL, val, undef, List.replicate]
  refine wpIn_seq (vcReg_regionIn (.inl rfl) c0 (Q' := fun t' H' => t' = [.raw (.func (.yield l) #[] #[]), .ptr 0 0, un, un, .mp 1, .ptr 2 0, un, un, un, un, un, un, un, un] ∧ H' = [.cells [.mp 1] tB, .map es c, .iter (some 1) c [] c]) ?_ hA rfl ?_)
  rotate_left 1
  · simp [vcReg, vcIns, vcOp, evK, getK, putK_eq, put, newHK_eq, vcLoad, objK]
  rintro a1 w1 ⟨ρ1, t1, H1, hA1, hd1, hρ1, _, rfl, rfl⟩
  refine wpIn_block ((wpIn_wide (n := 0)).2 ?_)
  let live : List (Nat × SV) := [(0, .raw (.func (.yield l) #[] #[])), (1, .ptr 0 0), (4, .mp 1), (5, .ptr 2 0)]
  let t0 : List SV := [un, un, un, un, un, un, un, un, un, un, un, un, un, un]
  let Hit : List MapEntry → List SO := fun pre => [.cells [.mp 1] tB, .map es c, .iter (some 1) c (pre.map (·.born)) c]
  refine wp_loop_ghost (X := List MapEntry) (fun pre a w => (∀ e, e ∈ pre → e ∈ es) ∧ (pre.map (·.born)).Nodup ∧ ∃ gf gv, J (pre.map elt) gf ∧ Sat P 2 ρ gf (fun t' H' => t' = headT gv 0 t0 live ∧ H' = Hit pre) a w)
    (fun pre => es.length - pre.length) [] ⟨by simp, by simp, g, ?_⟩ ?_
  · obtain ⟨gv, hs⟩ := fits_sat (n0 := 2) (ρ0 := ρ) (t0 := t0) (σ := [0, 1, 2]) (live := live) (H0 := Hit []) ⟨rfl, rfl, rfl⟩ hA1 hd1 (fun k hk => hρ1 k (by simpa using hk))
    exact ⟨gv, hJ, hs⟩
  rintro pre a2 w2 ⟨hsub, hndp, gf, gv, hJ2, ρ2, t2, H2, hA2, hd2, hρ2, _, rfl, rfl⟩
  refine (wpIn_wide (n := 0)).1 ?_
  let T : SV → SV → List SV := fun v6 v7 => [.raw (.func (.yield l) #[] #[]), .ptr 0 0, .raw (gv 2), .raw (gv 3), .mp 1, .ptr 2 0, v6, v7, .raw (gv 8), .raw (gv 9), .raw (gv 10), .raw (gv 11), .raw (gv 12), .raw (gv 13)]
  refine wpIn_seq (vcReg_regionIn (.inl rfl) c1 (Q' := fun t' H' => ((∀ e, e ∈ es → e.born ∈ pre.map (·.born)) ∧ (∃ v6, t' = T v6 (.kb false)) ∧ H' = Hit pre) ∨ ∃ e, e ∈ es ∧ e.born ∉ pre.map (·.born) ∧ (∃ v6, t' = T v6 (.kb true)) ∧ H' = Hit (pre ++ [e])) ?_ hA2 hd2 ?_)
  rotate_left 1
  · show vcReg P _ (T (.raw (gv 6)) (.raw (gv 7))) (Hit pre) _
    simp only [T, Hit, vcReg, vcIns, vcOp, evK, getK, putK_eq, put, vcNext, objK]
    refine ⟨⟨hborn, Nat.le_refl _⟩, fun hall => ?_, fun e he hne => ?_⟩
    · exact .inl ⟨hall, ⟨_, rfl⟩, trivial⟩
    · rw [setHK_eq]
      exact .inr ⟨e, he, hne, ⟨_, rfl⟩, by simp⟩
  rintro a3 w3 ⟨ρ3, t3, H3, hA3, hd3, hρ3, _, hcase⟩
  have hnames : ∀ k, k < 2 → ρ3 k = ρ k := fun k hk => (hρ3 k (by simp [Hit]; omega)).trans (hρ2 k hk)
  rcases hcase with ⟨hall, ⟨v6, rfl⟩, rfl⟩ | ⟨e, he, hne, ⟨v6, rfl⟩, rfl⟩
  · refine wpIn_seq (wpIn_cond_false (by rw [hA3.eq (y := .t 7) rfl]; rfl) (wpIn_exit ?_))
    simp only [Exit.then, Exit.inBlock, if_true]
    refine ⟨hd3, .tuple #[], by simp [results, hres], ⟨_, rfl⟩, pre.map elt, gf, ⟨pre, ?_, rfl⟩, hJ2, ?_⟩
    · exact perm_born hnd hndp hsub hall
    · have := hA3.s.pick (σ := [0, 1]) (H0 := [.cells [.mp 1] tB, .map es c]) rfl rfl
      exact this.names fun k hk => by
        match k, hk with
        | 0, _ => exact (hnames 0 (by omega)).symm
        | 1, _ => exact (hnames 1 (by omega)).symm
  · refine wpIn_seq (wpIn_cond_true (by rw [hA3.eq (y := .t 7) rfl]; rfl) (wpIn_skip ?_))
    have hlast : (pre.map (·.born) ++ [e.born]).getLast? = some e.born := by simp
    have hfind : es.find? (·.born == e.born) = some e := find_born hnd he
    have hA3' : At P ρ3 [.cells [.mp 1] tB, .map es c, .iter (some 1) c (pre.map (·.born) ++ [e.born]) c] gf w3 (T v6 (.kb true)) a3 := by
      simpa [Hit] using hA3
    refine wpIn_block (wpIn_seq (vcReg_regionIn (.inl rfl) c2 ?_ hA3' hd3 (it_l2 h (elt e) hlast hfind (hel e he) _ _ _ _ _ _ _ _ _ _ _ _ _)))
    rintro a4 w4 ⟨ρ4, t4, H4, hA4, hd4, hρ4, _, ⟨v8, rfl⟩, rfl⟩
    obtain ⟨m1, m2⟩ := mapM_get c3
    have hsz : ops3.size = 4 := by simpa [itL3] using m1.symm
    have hop : ∀ (j : Nat) x, (itL3 n)[j]? = some x → ∃ o, ops3[j]? = some o ∧ cIns P ops3 o = some x := by
      intro j x hx
      have := m2 j
      rw [hx] at this
      obtain ⟨o, h1, h2⟩ := Option.bind_eq_some_iff.1 this
      exact ⟨o, by simpa using h1, h2⟩
    obtain ⟨o0, p0, q0⟩ := hop 0 _ rfl
    obtain ⟨o1, p1, q1⟩ := hop 1 _ rfl
    obtain ⟨o2, p2, q2⟩ := hop 2 _ rfl
    obtain ⟨o3, p3, q3⟩ := hop 3 _ rfl
    refine wpIn_seq (wpIn_region ?_)
    rw [hsz]
    show wpOpsIn Fence.wide 0 P ops3 _ [0, 1, 2, 3] a4 w4
    let T4 : SV → SV → SV → List SV := fun v10 v11 v12 => [.raw (.func (.yield l) #[] #[]), .ptr 0 0, .raw (gv 2), .ptr 3 0, .mp 1, .ptr 2 0, v6, .kb true, v8, sv (elt e), v10, v11, v12, .raw (gv 13)]
    let H4 : List SO := [.cells [.mp 1] tB, .map es c, .iter (some 1) c (pre.map (·.born) ++ [e.born]) c, .cells ((cells (elt e)).map .raw) tE]
    have hload : ∀ K : SV → Prop, K (sv (elt e)) → vcLoad n (.ptr 3 0) H4 K := by
      intro K hK
      rcases h.sv_cells (elt e) with ⟨rfl, v, e1, e2⟩ | ⟨m, rfl, e1⟩
      · rw [e1] at hK
        simp only [H4, vcLoad, objK, e2, List.map_cons, List.map_nil, List.getElem?_cons_zero]
        exact hK
      · have hm : m = ((cells (elt e)).map SV.raw).length := by
          have := (shape_some h.shape).2
          rw [h.size] at this
          simp [h.len (elt e), (Option.some.inj this).symm]
        rw [e1] at hK
        simp only [H4, vcLoad, objK, hm, cut_all]
        exact hK
    refine ins_in (.inl rfl) p0 q0 (K := fun t' H' => t' = T4 (.raw (.func (.yield l) #[] #[])) (.raw (gv 11)) (.raw (gv 12)) ∧ H' = H4) hA4 hd4 ?_ ?_
    · simp [vcIns, vcOp, evK, getK, putK_eq, put, T4, H4]
    rintro a5 w5 ⟨ρ5, t5, H5, hA5, hd5, hρ5, _, rfl, rfl⟩
    refine ins_in (.inl rfl) p1 q1 (K := fun t' H' => t' = T4 (.raw (.func (.yield l) #[] #[])) (sv (elt e)) (.raw (gv 12)) ∧ H' = H4) hA5 hd5 ?_ ?_
    · simp only [vcIns, vcOp, evK, getK, putK_eq, T4]
      exact hload _ ⟨rfl, trivial⟩
    rintro a6 w6 ⟨ρ6, t6, H6, hA6, hd6, hρ6, _, rfl, rfl⟩
    have hlen : (pre.map elt).length < es.length := by
      rw [List.length_map]; exact len_born hndp hsub he hne
    have hY := hR (pre.map elt) (elt e) gf w6 0 hJ2 hlen hA6.s.isCov
    refine yield_in p2 q2 hA6 rfl (by rw [show V.val ρ6 (ev (T4 (.raw (.func (.yield l) #[] #[])) (sv (elt e)) (.raw (gv 12))) (.t 11)) = V.val (fun _ => none) (sv (elt e)) from h.val _ _ _]; exact hY) ?_
    rintro _ w7 ⟨rfl, gf', hJ', hcov, hext⟩
    refine ⟨_, rfl, ?_⟩
    have hS7 := hA6.s.round (by simp [H4, plainH, SO.owned]) hcov hext
    have hA7 : At P ρ6 H4 gf' w7 (T4 (.raw (.func (.yield l) #[] #[])) (sv (elt e)) (.kb true)) (a6.put (some 12) (.bool true)) := ⟨hA6.f.put (some 12) (.kb true), belowL_put hA6.b (some 12) rfl, hS7⟩
    refine ins_in (.inl rfl) p3 q3 (K := fun t' H' => t' = (T4 (.raw (.func (.yield l) #[] #[])) (sv (elt e)) (.kb true)).set 13 (.kb false) ∧ H' = H4) hA7 hd6 ?_ ?_
    · simp [vcIns, vcOp, evK, getK, putK_eq, put, T4, vcUn]
    rintro a8 w8 ⟨ρ8, t8, H8, hA8, hd8, hρ8, _, rfl, rfl⟩
    show Exit.then _ _ .normal a8 w8
    refine wpIn_cond_false (by rw [hA8.eq (y := .t 13) rfl]; rfl) (wpIn_skip ?_)
    have hn8 : ∀ k, k < 2 → ρ8 k = ρ k := by
      intro k hk
      rw [hρ8 k (by simp [H4]; omega), hρ6 k (by simp [H4]; omega), hρ5 k (by simp; omega), hρ4 k (by simp; omega), hnames k hk]
    obtain ⟨gv', hs⟩ := fits_sat (n0 := 2) (ρ0 := ρ) (t0 := t0) (σ := [0, 1, 2]) (live := live) (H0 := Hit (pre ++ [e])) ⟨rfl, by simp [Hit, H4, pickH, renH, asked, obj, SO.ren, renL, ren, sub], rfl⟩ hA8 hd8 hn8
    refine ⟨pre ++ [e], ⟨?_, ?_, gf', gv', by simpa using hJ', hs⟩, ?_⟩
    · intro x hx
      rcases List.mem_append.1 hx with h1 | h1
      · exact hsub x h1
      · simp at h1; exact h1 ▸ he
    · rw [List.map_append, List.nodup_append]
      refine ⟨hndp, by simp, fun x hx y hy => ?_⟩
      simp at hy; subst hy
      rintro rfl; exact hne hx
    · have : pre.length < es.length := by simpa using hlen
      simp; omega
end
end Go.V
