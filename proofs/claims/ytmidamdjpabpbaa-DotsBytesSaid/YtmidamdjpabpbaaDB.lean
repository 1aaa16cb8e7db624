/- Part of the proof that the statement named in the last file holds: lemmas of the prover's own. No conditions. -/
import Derived.Test.YtmidamdjpabpbaaDA
import Derived.Test.YtmidamdjpabpbaaVD
namespace Go.Proofs
open Go Go.V
set_option maxRecDepth 100000
set_option linter.unusedVariables false

theorem inM_iff {ms : DM} {d : Int × Int} : inM ms d = true ↔ ∃ x ∈ ms, x.1 = d := by
  rw [← mem_keysOf]; simp [keysOf]

structure MX where
  ms : DM
  c : Nat
  seen : List Nat
  pre : DM

theorem s_Copy (ms ms2 : DM) (c c2 : Nat) (hm : MOK ms c) (hk : (ms.map (·.1)).Nodup) (hm2 : MOK ms2 c2) :
    Ctr Try.prog F_maps_Copy_map_api_Dot_bool_map_api_Dot_bool_api_Dot_bool [.mp 0, .mp 1] [dmap ms c, dmap ms2 c2]
    (fun x H => x = .tup [] ∧ ∃ ms' c', H = [dmap ms' c', dmap ms2 c2] ∧ MOK ms' c' ∧ (ms'.map (·.1)).Nodup ∧ ∀ d, inM ms' d = true ↔ (inM ms d = true ∨ inM ms2 d = true)) := by
  refine i_maps_Copy_map_api_Dot_bool_map_api_Dot_bool_api_Dot_bool.spec follows ?_
  refine VLoop.mk MX (fun x => [(0, .mp 0), (7, .ptr 2 0)]) (fun x => [dmap x.ms x.c, dmap ms2 c2, .iter (some 1) c2 x.seen c2])
    (fun x => MOK x.ms x.c ∧ (x.ms.map (·.1)).Nodup ∧ Been ms2 x.pre x.seen ∧ ∀ d, inM x.ms d = true ↔ (inM ms d = true ∨ inM x.pre d = true)) (fun x => ms2.length - x.pre.length) ⟨ms, c, [], []⟩ [0, 1, 2] ⟨⟨hm, hk, Been.nil _, fun d => by simp [inM, get_nil]⟩, rfl, rfl, rfl⟩ ?_
  rintro ⟨ms', c', seen, pre⟩ ⟨h1, h2, h3, h4⟩ g
  simp only at h1 h2 h3 h4
  refine And.intro ⟨?_, Nat.le_refl _⟩ (And.intro (fun hall => ?_) (fun e he hns => ?_))
  · intro e he
    obtain ⟨x, hx, rfl⟩ := List.mem_map.1 he
    exact hm2.1 x hx
  · refine VRet.mk [0, 1] (.tup []) [dmap ms' c', dmap ms2 c2] ⟨rfl, rfl, rfl⟩ ⟨rfl, ms', c', rfl, h1, h2, fun d => ?_⟩
    rw [h4, inM_iff (ms := ms2), inM_iff (ms := pre)]
    constructor
    · rintro (h | ⟨x, hx, h⟩)
      · exact .inl h
      · exact .inr ⟨x, h3.sub x hx, h⟩
    · rintro (h | ⟨x, hx, h⟩)
      · exact .inl h
      · exact .inr ⟨x, h3.all hm2.2 hx (hall _ (List.mem_map.2 ⟨x, hx, rfl⟩)), h⟩
  · obtain ⟨x, hx, rfl⟩ := List.mem_map.1 he
    have hns : x.2.2 ∉ seen := hns
    refine Exists.intro x.2.2 (Exists.intro (ent encD encU x) (And.intro (last_snoc _ _) (And.intro (find_ents hm2.2 hx) (And.intro rfl ?_))))
    refine Exists.intro _ (Exists.intro _ (And.intro (update_is (encv := encU) kD ms' c' x.1 ()) ?_))
    refine Exists.intro ⟨MP.put ms' x.1 () c', if (MP.get ms' x.1).isSome then c' else c' + 1, seen ++ [x.2.2], pre ++ [x]⟩ (Exists.intro [0, 1, 2] (And.intro ⟨⟨h1.put _ _, nodup_put h2 _ _ _, h3.more hx hns, fun d => ?_⟩, h3.len hx hns⟩ ⟨rfl, rfl, rfl⟩))
    simp only
    rw [inM_put, h4, inM_iff (ms := pre), inM_iff (ms := pre ++ [x])]
    constructor
    · rintro (h | h | ⟨y, hy, h⟩)
      · exact .inr ⟨x, by simp, h.symm⟩
      · exact .inl h
      · exact .inr ⟨y, by simp [hy], h⟩
    · rintro (h | ⟨y, hy, h⟩)
      · exact .inr (.inl h)
      · rcases List.mem_append.1 hy with hy | hy
        · exact .inr (.inr ⟨y, hy, h⟩)
        · simp at hy; subst hy; exact .inl h.symm

/-! ### vec.Merge -/
def vmax (v w : Nat → Int) : Nat → Int := fun i => if w i > v i then w i else v i
def mrg (v w : Nat → Int) (i : Nat) : Nat → Int := fun j => if j < i then vmax v w j else v j
theorem s_vec_Merge (v w : Nat → Int) : Ctr Try.prog F_vec_Merge [.agg (vcells v), .agg (vcells w)] [] (fun x H => x = .agg (vcells (vmax v w)) ∧ H = []) := by
  refine i_vec_Merge.spec follows ?_
  refine VLoop.mk (Nat × (Nat → Int)) (fun x => [(2, .ptr 0 0), (3, .ptr 1 0), (4, .ptr 2 0), (6, iv x.1)]) (fun x => [.cells (vcells x.2) 33, .cells (vcells w) 33, .cells (vcells fun _ => 0) 33])
    (fun x => x.1 ≤ 7 ∧ ∀ j, j < 7 → x.2 j = mrg v w x.1 j) (fun x => 7 - x.1) (0, v) [0, 1, 2] ⟨⟨Nat.zero_le _, fun j _ => by simp [mrg]⟩, rfl, rfl, rfl⟩ ?_
  rintro ⟨i, u⟩ ⟨hi, hu⟩ g
  simp only at hi hu
  refine And.intro (fun h => ?_) (fun h => ?_)
  · have h := of_decide_eq_true h
    have hi7 : 0 ≤ (i : Int) ∧ (i : Int) < 7 := ⟨by omega, h⟩
    have hw : IntKind.i64.wrap ((i : Int) + 1) = ((i + 1 : Nat) : Int) := wrap64 (by omega)
    refine And.intro hi7 (Exists.intro _ (And.intro (vcells_get' u hi7 []) ?_))
    refine And.intro hi7 (Exists.intro _ (And.intro (vcells_get' w hi7 []) ?_))
    refine And.intro hi7 (Exists.intro _ (And.intro (vcells_put u (if w (i : Int).toNat > u (i : Int).toNat then w (i : Int).toNat else u (i : Int).toNat) hi7 []) ?_))
    refine Exists.intro _ (And.intro hw ?_)
    refine Exists.intro (i + 1, upv u (i : Int).toNat (if w (i : Int).toNat > u (i : Int).toNat then w (i : Int).toNat else u (i : Int).toNat)) (Exists.intro [0, 1, 2] (And.intro ⟨⟨by simp only at h ⊢; omega, fun j hj => ?_⟩, by simp only at h ⊢; omega⟩ ⟨rfl, rfl, rfl⟩))
    rw [Int.toNat_natCast]
    simp only [upv, mrg]
    by_cases hji : j = i
    · subst hji
      have huj : u j = v j := by rw [hu j hj, mrg, if_neg (by omega)]
      simp [huj, vmax]
    · rw [if_neg hji, hu j hj, mrg]
      by_cases hlt : j < i
      · rw [if_pos hlt, if_pos (by omega)]
      · rw [if_neg hlt, if_neg (by omega)]
  · have h := of_decide_eq_false h
    have h7 : i = 7 := by simp only at h; omega
    subst h7
    refine VRet.mk [] (.agg (vcells u)) [] ⟨rfl, rfl, rfl⟩ ⟨?_, rfl⟩
    have e : ∀ j, j < 7 → u j = vmax v w j := fun j hj => by rw [hu j hj, mrg, if_pos hj]
    show SV.agg [iv (u 0), iv (u 1), iv (u 2), iv (u 3), iv (u 4), iv (u 5), iv (u 6)] = _
    rw [e 0 (by omega), e 1 (by omega), e 2 (by omega), e 3 (by omega), e 4 (by omega), e 5 (by omega), e 6 (by omega)]

/-! ### DeleteFunc: what the clock has -/
theorem s_Merge_1 (v : Nat → Int) (r n : Int) (b : Bool) (ms : DM) (c : Nat) : Ctr Try.prog F_dots_Dots_Merge_1 [.agg (dcells r n), .kb b, .ptr 0 0] [.cells [.ptr 1 0] T_p_dots_Dots, .cells (dcs v 2) T_dots_Dots, dmap ms c]
    (fun x H => x = bv (has v r n) ∧ H = [.cells [.ptr 1 0] T_p_dots_Dots, .cells (dcs v 2) T_dots_Dots, dmap ms c]) := by
  refine i_dots_Dots_Merge_1.spec follows ?_
  refine VCall.mk [] (s_vec_Has v r n) ⟨rfl, rfl, rfl⟩ ?_
  rintro _ _ ⟨rfl, rfl⟩
  refine VRet.mk [0, 1, 2] (bv _) [.cells [.ptr 1 0] T_p_dots_Dots, .cells (dcs v 2) T_dots_Dots, dmap ms c] ⟨rfl, rfl, rfl⟩ ⟨rfl, rfl⟩

theorem key_inj {ms : DM} (hk : (ms.map (·.1)).Nodup) {x y : (Int × Int) × Unit × Nat} (hx : x ∈ ms) (hy : y ∈ ms) (h : x.1 = y.1) : x = y := by
  induction ms with
  | nil => simp at hx
  | cons z ms ih =>
    simp only [List.map_cons, List.nodup_cons] at hk
    rcases List.mem_cons.1 hx with h1 | h1 <;> rcases List.mem_cons.1 hy with h2 | h2
    · rw [h1, h2]
    · exact absurd (List.mem_map.2 ⟨y, h2, by rw [← h, h1]⟩) hk.1
    · exact absurd (List.mem_map.2 ⟨x, h1, by rw [h, h2]⟩) hk.1
    · exact ih hk.2 h1 h2

theorem s_DeleteFunc (v : Nat → Int) (ms : DM) (c : Nat) (hm : MOK ms c) (hk : (ms.map (·.1)).Nodup) : Ctr Try.prog F_maps_DeleteFunc_map_api_Dot_bool_api_Dot_bool [.mp 0, .fn F_dots_Dots_Merge_1 [.ptr 1 0]] [dmap ms c, .cells [.ptr 2 0] T_p_dots_Dots, .cells (dcs v 0) T_dots_Dots]
    (fun x H => x = .tup [] ∧ ∃ ms', H = [dmap ms' c, .cells [.ptr 2 0] T_p_dots_Dots, .cells (dcs v 0) T_dots_Dots] ∧ MOK ms' c ∧ (ms'.map (·.1)).Nodup ∧ ∀ d, inM ms' d = true ↔ (inM ms d = true ∧ has v d.1 d.2 = false)) := by
  refine i_maps_DeleteFunc_map_api_Dot_bool_api_Dot_bool.spec follows ?_
  refine VLoop.mk MX (fun x => [(0, .mp 0), (1, .fn F_dots_Dots_Merge_1 [.ptr 1 0]), (7, .ptr 3 0)]) (fun x => [dmap x.ms c, .cells [.ptr 2 0] T_p_dots_Dots, .cells (dcs v 0) T_dots_Dots, .iter (some 0) c x.seen c])
    (fun x => MOK x.ms c ∧ (x.ms.map (·.1)).Nodup ∧ Been ms x.pre x.seen ∧ (∀ y ∈ x.ms, y ∈ ms) ∧ (∀ y ∈ ms, y ∈ x.ms ∨ has v y.1.1 y.1.2 = true) ∧ (∀ y ∈ x.pre, has v y.1.1 y.1.2 = true → y ∉ x.ms))
    (fun x => ms.length - x.pre.length) ⟨ms, c, [], []⟩ [0, 1, 2, 3] ⟨⟨hm, hk, Been.nil _, fun y hy => hy, fun y hy => .inl hy, by simp⟩, rfl, rfl, rfl⟩ ?_
  rintro ⟨ms', _, seen, pre⟩ ⟨h1, h2, h3, h4, h5, h6⟩ g
  simp only at h1 h2 h3 h4 h5 h6
  refine And.intro ⟨?_, Nat.le_refl _⟩ (And.intro (fun hall => ?_) (fun e he hns => ?_))
  · intro e he
    obtain ⟨x, hx, rfl⟩ := List.mem_map.1 he
    exact h1.1 x hx
  · refine VRet.mk [0, 1, 2] (.tup []) [dmap ms' c, .cells [.ptr 2 0] T_p_dots_Dots, .cells (dcs v 0) T_dots_Dots] ⟨rfl, rfl, rfl⟩ ⟨rfl, ms', rfl, h1, h2, fun d => ?_⟩
    rw [inM_iff, inM_iff]
    constructor
    · rintro ⟨x, hx, rfl⟩
      refine ⟨⟨x, h4 x hx, rfl⟩, ?_⟩
      cases hh : has v x.1.1 x.1.2 with
      | false => rfl
      | true => exact absurd hx (h6 x (h3.all hm.2 (h4 x hx) (hall _ (List.mem_map.2 ⟨x, hx, rfl⟩))) hh)
    · rintro ⟨⟨x, hx, rfl⟩, hh⟩
      rcases h5 x hx with h | h
      · exact ⟨x, h, rfl⟩
      · rw [hh] at h; cases h
  · obtain ⟨x, hx, rfl⟩ := List.mem_map.1 he
    have hns : x.2.2 ∉ seen := hns
    refine Exists.intro x.2.2 (Exists.intro (ent encD encU x) (And.intro (last_snoc _ _) (And.intro (find_ents h1.2 hx) (And.intro rfl ?_))))
    refine And.intro (by kernel_rfl) (VCall.mk [1, 2, 0] (s_Merge_1 v x.1.1 x.1.2 true ms' c) ⟨rfl, rfl, rfl⟩ ?_)
    rintro _ _ ⟨rfl, rfl⟩
    have hx' : x ∈ ms := h4 x hx
    refine And.intro (fun hh => ?_) (fun hh => ?_)
    · refine Exists.intro _ (And.intro (delete_is kD ms' x.1) ?_)
      refine Exists.intro ⟨MP.del ms' x.1, c, seen ++ [x.2.2], pre ++ [x]⟩ (Exists.intro [0, 1, 2, 3] (And.intro ⟨⟨h1.del _, nodup_del h2 _, h3.more hx' hns, ?_, ?_, ?_⟩, h3.len hx' hns⟩ ⟨rfl, rfl, rfl⟩))
      · intro y hy; exact h4 y ((del_sub _ _).subset hy)
      · intro y hy
        rcases h5 y hy with h | h
        · by_cases hyx : y.1 = x.1
          · exact .inr (by rw [hyx]; exact hh)
          · left
            have h9 : inM (MP.del ms' x.1) y.1 = true := by rw [inM_del h2]; exact ⟨hyx, inM_iff.2 ⟨y, h, rfl⟩⟩
            obtain ⟨z, hz, hzy⟩ := inM_iff.1 h9
            have hz' := (del_sub ms' x.1).subset hz
            have : z = y := key_inj h2 hz' h hzy
            exact this ▸ hz
        · exact .inr h
      · intro y hy hv hym
        rcases List.mem_append.1 hy with hy | hy
        · exact h6 y hy hv ((del_sub _ _).subset hym)
        · simp at hy; subst hy
          have := inM_iff.2 ⟨y, hym, rfl⟩
          rw [inM_del h2] at this
          exact this.1 rfl
    · refine Exists.intro ⟨ms', c, seen ++ [x.2.2], pre ++ [x]⟩ (Exists.intro [0, 1, 2, 3] (And.intro ⟨⟨h1, h2, h3.more hx' hns, h4, h5, ?_⟩, h3.len hx' hns⟩ ⟨rfl, rfl, rfl⟩))
      intro y hy hv
      rcases List.mem_append.1 hy with hy | hy
      · exact h6 y hy hv
      · simp at hy; subst hy
        rw [hh] at hv; cases hv

theorem s_Clone (ms : DM) (c : Nat) : Ctr Try.prog F_maps_Clone_map_api_Dot_bool_api_Dot_bool [.mp 0] [dmap ms c] (fun x H => x = .mp 1 ∧ H = [dmap ms c, dmap ms c]) := clone_ctr Try.cloneD _ _

/-! ### Equal, Same -/
def EqM (ms ms2 : DM) : Prop := ms.length = ms2.length ∧ ∀ d, inM ms d = true → inM ms2 d = true
theorem s_Equal (ms ms2 : DM) (c c2 : Nat) (hm : MOK ms c) : Ctr Try.prog F_maps_Equal_map_api_Dot_bool_map_api_Dot_bool_api_Dot_bool [.mp 0, .mp 1] [dmap ms c, dmap ms2 c2]
    (fun x H => ∃ b, x = bv b ∧ (b = true ↔ EqM ms ms2) ∧ H = [dmap ms c, dmap ms2 c2]) := by
  refine i_maps_Equal_map_api_Dot_bool_map_api_Dot_bool_api_Dot_bool.spec follows ?_
  refine And.intro (fun h => ?_) (fun h => ?_)
  · refine VRet.mk [0, 1] (bv false) [dmap ms c, dmap ms2 c2] ⟨rfl, rfl, rfl⟩ ⟨false, rfl, ?_, rfl⟩
    simp [ents] at h
    simp only [EqM, Bool.false_eq_true, false_iff]
    rintro ⟨h1, _⟩; omega
  have hl : ms.length = ms2.length := by simp [ents] at h; omega
  refine VLoop.mk MX (fun x => [(1, .mp 1), (15, .ptr 2 0)]) (fun x => [dmap ms c, dmap ms2 c2, .iter (some 0) c x.seen c])
    (fun x => Been ms x.pre x.seen ∧ ∀ y ∈ x.pre, inM ms2 y.1 = true) (fun x => ms.length - x.pre.length) ⟨[], 0, [], []⟩ [0, 1, 2] ⟨⟨Been.nil _, by simp⟩, rfl, rfl, rfl⟩ ?_
  rintro ⟨_, _, seen, pre⟩ ⟨h3, h4⟩ g
  simp only at h3 h4
  refine And.intro ⟨?_, Nat.le_refl _⟩ (And.intro (fun hall => ?_) (fun e he hns => ?_))
  · intro e he
    obtain ⟨x, hx, rfl⟩ := List.mem_map.1 he
    exact hm.1 x hx
  · refine VRet.mk [0, 1] (bv true) [dmap ms c, dmap ms2 c2] ⟨rfl, rfl, rfl⟩ ⟨true, rfl, ?_, rfl⟩
    simp only [true_iff]
    refine ⟨hl, fun d hd => ?_⟩
    obtain ⟨x, hx, rfl⟩ := inM_iff.1 hd
    exact h4 x (h3.all hm.2 hx (hall _ (List.mem_map.2 ⟨x, hx, rfl⟩)))
  · obtain ⟨x, hx, rfl⟩ := List.mem_map.1 he
    have hns : x.2.2 ∉ seen := hns
    refine Exists.intro x.2.2 (Exists.intro (ent encD encU x) (And.intro (last_snoc _ _) (And.intro (find_ents hm.2 hx) (And.intro rfl ?_))))
    refine Exists.intro (bv (inM ms2 x.1)) (Exists.intro _ (Exists.intro _ (And.intro (lookD ms2 x.1) (And.intro rfl ?_))))
    have hd : inM ms x.1 = true := inM_iff.2 ⟨x, hx, rfl⟩
    refine And.intro (fun h5 => ?_) (fun h5 => ?_)
    · have h6 : inM ms2 x.1 = true := by simpa using h5
      refine And.intro (fun h7 => ?_) (fun h7 => ?_)
      · rw [h6] at h7; simp at h7
      · refine Exists.intro ⟨[], 0, seen ++ [x.2.2], pre ++ [x]⟩ (Exists.intro [0, 1, 2] (And.intro ⟨⟨h3.more hx hns, ?_⟩, h3.len hx hns⟩ ⟨rfl, rfl, rfl⟩))
        intro y hy
        rcases List.mem_append.1 hy with hy | hy
        · exact h4 y hy
        · simp at hy; subst hy; exact h6
    · have h6 : inM ms2 x.1 = false := by simpa using h5
      refine VRet.mk [0, 1] (bv false) [dmap ms c, dmap ms2 c2] ⟨rfl, rfl, rfl⟩ ⟨false, rfl, ?_, rfl⟩
      simp only [EqM, Bool.false_eq_true, false_iff]
      rintro ⟨_, h7⟩
      rw [h7 _ hd] at h6; cases h6

/-- Same: clocks and those loose. -/
theorem s_Same (v v2 : Nat → Int) (ms ms2 : DM) (c c2 : Nat) (hm : MOK ms c) : Ctr Try.prog F_dots_Same [.ptr 0 0, .ptr 2 0] [.cells (dcs v 1) T_dots_Dots, dmap ms c, .cells (dcs v2 3) T_dots_Dots, dmap ms2 c2]
    (fun x H => ∃ b, x = bv b ∧ (b = true ↔ ((∀ i, i < 7 → v i = v2 i) ∧ EqM ms ms2)) ∧ H = [.cells (dcs v 1) T_dots_Dots, dmap ms c, .cells (dcs v2 3) T_dots_Dots, dmap ms2 c2]) := by
  refine i_dots_Same.spec follows ?_
  have hv : (decide (v 0 = v2 0) && (decide (v 1 = v2 1) && (decide (v 2 = v2 2) && (decide (v 3 = v2 3) && (decide (v 4 = v2 4) && (decide (v 5 = v2 5) && decide (v 6 = v2 6))))))) = true ↔ ∀ i, i < 7 → v i = v2 i := by
    simp only [Bool.and_eq_true, decide_eq_true_iff]
    constructor
    · rintro ⟨h0, h1, h2, h3, h4, h5, h6⟩ i hi
      match i, hi with | 0, _ => exact h0 | 1, _ => exact h1 | 2, _ => exact h2 | 3, _ => exact h3 | 4, _ => exact h4 | 5, _ => exact h5 | 6, _ => exact h6
    · intro h; exact ⟨h 0 (by omega), h 1 (by omega), h 2 (by omega), h 3 (by omega), h 4 (by omega), h 5 (by omega), h 6 (by omega)⟩
  refine And.intro (fun h => ?_) (fun h => ?_)
  · refine VCall.mk [1, 3] (s_Equal ms ms2 c c2 hm) ⟨rfl, rfl, rfl⟩ ?_
    rintro _ _ ⟨b, rfl, hb, rfl⟩
    refine VRet.mk [0, 1, 2, 3] (bv b) [.cells (dcs v 1) T_dots_Dots, dmap ms c, .cells (dcs v2 3) T_dots_Dots, dmap ms2 c2] ⟨rfl, rfl, rfl⟩ ⟨b, rfl, ?_, rfl⟩
    rw [hb]; exact ⟨fun h2 => ⟨hv.1 h, h2⟩, fun h2 => h2.2⟩
  · refine VRet.mk [0, 1, 2, 3] (bv false) [.cells (dcs v 1) T_dots_Dots, dmap ms c, .cells (dcs v2 3) T_dots_Dots, dmap ms2 c2] ⟨rfl, rfl, rfl⟩ ⟨false, rfl, ?_, rfl⟩
    simp only [Bool.false_eq_true, false_iff]
    rintro ⟨h2, _⟩
    have h3 := hv.2 h2
    have h : (decide (v 0 = v2 0) && (decide (v 1 = v2 1) && (decide (v 2 = v2 2) && (decide (v 3 = v2 3) && (decide (v 4 = v2 4) && (decide (v 5 = v2 5) && decide (v 6 = v2 6))))))) = false := h
    rw [h3] at h; cases h
end Go.Proofs

namespace Go.Proofs
open Go Go.V
set_option maxRecDepth 100000
set_option linter.unusedVariables false

theorem vmax_lo {v w : Nat → Int} (hv : ∀ r, r < 7 → 0 ≤ v r ∧ v r ≤ 1099511627776) (hw : ∀ r, r < 7 → 0 ≤ w r ∧ w r ≤ 1099511627776) : ∀ r, r < 7 → 0 ≤ vmax v w r ∧ vmax v w r ≤ 1099511627776 := by
  intro r hr
  have := hv r hr
  have := hw r hr
  unfold vmax; split <;> omega
theorem has_vmax {v w : Nat → Int} {r n : Int} : has (vmax v w) r n = true ↔ (has v r n = true ∨ has w r n = true) := by
  rw [has_iff, has_iff, has_iff]
  unfold vmax
  split <;> omega
/-- Both's dots, behind the greater clock. -/
theorem Pre.merge {v w : Nat → Int} {ms ms2 ms3 : DM} {S S2 : Int × Int → Prop} (h : Canon v ms S) (h2 : Canon w ms2 S2) (hk : (ms3.map (·.1)).Nodup)
    (h3 : ∀ d, inM ms3 d = true ↔ ((inM ms d = true ∨ inM ms2 d = true) ∧ has (vmax v w) d.1 d.2 = false)) : Pre (vmax v w) ms3 (fun x => S x ∨ S2 x) where
  lo := vmax_lo h.lo h2.lo
  nd := hk
  seen := fun d => by
    rw [h.seen, h2.seen, has_vmax, h3]
    constructor
    · rintro ((h | h) | (h | h))
      · exact .inl (.inl h)
      · cases hh : has (vmax v w) d.1 d.2 with
        | true => exact .inl (has_vmax.1 hh)
        | false => exact .inr ⟨.inl h, rfl⟩
      · exact .inl (.inr h)
      · cases hh : has (vmax v w) d.1 d.2 with
        | true => exact .inl (has_vmax.1 hh)
        | false => exact .inr ⟨.inr h, rfl⟩
    · rintro ((h | h) | ⟨h | h, _⟩)
      · exact .inl (.inl h)
      · exact .inr (.inl h)
      · exact .inl (.inr h)
      · exact .inr (.inr h)
  far := fun d hd => by
    obtain ⟨h4, h5⟩ := (h3 d).1 hd
    have hdot : isDot d.1 d.2 = true := by
      rcases h4 with h4 | h4
      · exact (h.far d h4).1
      · exact (h2.far d h4).1
    refine ⟨hdot, ?_⟩
    have h6 := isDot_iff.1 hdot
    refine Int.not_le.1 fun hle => ?_
    have : has (vmax v w) d.1 d.2 = true := has_iff.2 ⟨h6.1, h6.2.1, hle⟩
    rw [h5] at this; cases this

theorem s_Merge (v v2 : Nat → Int) (ms ms2 : DM) (c c2 : Nat) (S S2 : Int × Int → Prop) (h : Canon v ms S) (h2 : Canon v2 ms2 S2) (hm : MOK ms c) (hm2 : MOK ms2 c2) (hl : ms.length ≤ 1000000) (hl2 : ms2.length ≤ 1000000) :
    Ctr Try.prog F_dots_Dots_Merge [.ptr 0 0, .ptr 2 0] [.cells (dcs v 1) T_dots_Dots, dmap ms c, .cells (dcs v2 3) T_dots_Dots, dmap ms2 c2]
    (fun x H => ∃ v' ms' c', Canon v' ms' (fun x => S x ∨ S2 x) ∧ MOK ms' c' ∧
      ((1000 < ms'.length ∧ x = iv 2 ∧ H = [.cells (dcs v 1) T_dots_Dots, dmap ms c, .cells (dcs v2 3) T_dots_Dots, dmap ms2 c2]) ∨
       (ms'.length ≤ 1000 ∧ x = iv 0 ∧ H = [.cells (dcs v' 4) T_dots_Dots, dmap ms c, .cells (dcs v2 3) T_dots_Dots, dmap ms2 c2, dmap ms' c']))) := by
  refine i_dots_Dots_Merge.spec follows ?_
  refine And.intro ?_ ?_
  · refine VCall.mk [] (s_vec_Merge v v2) ⟨rfl, rfl, rfl⟩ ?_
    rintro _ _ ⟨rfl, rfl⟩
    refine And.intro rfl (And.intro rfl ?_)
    refine And.intro ?_ ?_
    · refine VCall.mk [1] (s_Clone ms c) ⟨rfl, rfl, rfl⟩ ?_
      rintro _ _ ⟨rfl, rfl⟩
      refine And.intro ?_ ?_
      · refine VCall.mk [4, 3] (s_Copy ms ms2 c c2 hm h.nd hm2) ⟨rfl, rfl, rfl⟩ ?_
        rintro _ _ ⟨rfl, ms3, c3, rfl, hm3, hk3, hi3⟩
        refine VCall.mk [4, 6, 5] (s_DeleteFunc (vmax v v2) ms3 c3 hm3 hk3) ⟨rfl, rfl, rfl⟩ ?_
        rintro _ _ ⟨rfl, ms4, rfl, hm4, hk4, hi4⟩
        refine VCall.mk [5, 4] (s_close (vmax v v2) ms4 c3 _ (Pre.merge h h2 hk4 fun d => by rw [hi4, hi3]) hm4) ⟨rfl, rfl, rfl⟩ ?_
        rintro _ _ ⟨rfl, v', ms', hC, hM', rfl⟩
        refine And.intro (fun hg => ?_) (fun hg => ?_)
        · refine VRet.mk [0, 1, 2, 3] (iv 2) [.cells (dcs v 1) T_dots_Dots, dmap ms c, .cells (dcs v2 3) T_dots_Dots, dmap ms2 c2] ⟨rfl, rfl, rfl⟩ ⟨v', ms', c3, hC, hM', .inl ⟨?_, rfl, rfl⟩⟩
          simp [ents] at hg; omega
        · refine VRet.mk [0, 1, 2, 3, 4] (iv 0) [.cells (dcs v' 4) T_dots_Dots, dmap ms c, .cells (dcs v2 3) T_dots_Dots, dmap ms2 c2, dmap ms' c3] ⟨rfl, rfl, rfl⟩ ⟨v', ms', c3, hC, hM', .inr ⟨?_, rfl, rfl⟩⟩
          simp [ents] at hg; omega
      · refine And.intro rfl ?_
        refine VCall.mk [4, 3] (s_Copy ms ms2 c c2 hm h.nd hm2) ⟨rfl, rfl, rfl⟩ ?_
        rintro _ _ ⟨rfl, ms3, c3, rfl, hm3, hk3, hi3⟩
        refine VCall.mk [4, 5, 6] (s_DeleteFunc (vmax v v2) ms3 c3 hm3 hk3) ⟨rfl, rfl, rfl⟩ ?_
        rintro _ _ ⟨rfl, ms4, rfl, hm4, hk4, hi4⟩
        refine VCall.mk [6, 4] (s_close (vmax v v2) ms4 c3 _ (Pre.merge h h2 hk4 fun d => by rw [hi4, hi3]) hm4) ⟨rfl, rfl, rfl⟩ ?_
        rintro _ _ ⟨rfl, v', ms', hC, hM', rfl⟩
        refine And.intro (fun hg => ?_) (fun hg => ?_)
        · refine VRet.mk [0, 1, 2, 3] (iv 2) [.cells (dcs v 1) T_dots_Dots, dmap ms c, .cells (dcs v2 3) T_dots_Dots, dmap ms2 c2] ⟨rfl, rfl, rfl⟩ ⟨v', ms', c3, hC, hM', .inl ⟨?_, rfl, rfl⟩⟩
          simp [ents] at hg; omega
        · refine VRet.mk [0, 1, 2, 3, 4] (iv 0) [.cells (dcs v' 4) T_dots_Dots, dmap ms c, .cells (dcs v2 3) T_dots_Dots, dmap ms2 c2, dmap ms' c3] ⟨rfl, rfl, rfl⟩ ⟨v', ms', c3, hC, hM', .inr ⟨?_, rfl, rfl⟩⟩
          simp [ents] at hg; omega
    · refine And.intro rfl (And.intro rfl ?_)
      refine VCall.mk [1] (s_Clone ms c) ⟨rfl, rfl, rfl⟩ ?_
      rintro _ _ ⟨rfl, rfl⟩
      refine VCall.mk [5, 3] (s_Copy ms ms2 c c2 hm h.nd hm2) ⟨rfl, rfl, rfl⟩ ?_
      rintro _ _ ⟨rfl, ms3, c3, rfl, hm3, hk3, hi3⟩
      refine VCall.mk [5, 4, 6] (s_DeleteFunc (vmax v v2) ms3 c3 hm3 hk3) ⟨rfl, rfl, rfl⟩ ?_
      rintro _ _ ⟨rfl, ms4, rfl, hm4, hk4, hi4⟩
      refine VCall.mk [6, 5] (s_close (vmax v v2) ms4 c3 _ (Pre.merge h h2 hk4 fun d => by rw [hi4, hi3]) hm4) ⟨rfl, rfl, rfl⟩ ?_
      rintro _ _ ⟨rfl, v', ms', hC, hM', rfl⟩
      refine And.intro (fun hg => ?_) (fun hg => ?_)
      · refine VRet.mk [0, 1, 2, 3] (iv 2) [.cells (dcs v 1) T_dots_Dots, dmap ms c, .cells (dcs v2 3) T_dots_Dots, dmap ms2 c2] ⟨rfl, rfl, rfl⟩ ⟨v', ms', c3, hC, hM', .inl ⟨?_, rfl, rfl⟩⟩
        simp [ents] at hg; omega
      · refine VRet.mk [0, 1, 2, 3, 5] (iv 0) [.cells (dcs v' 4) T_dots_Dots, dmap ms c, .cells (dcs v2 3) T_dots_Dots, dmap ms2 c2, dmap ms' c3] ⟨rfl, rfl, rfl⟩ ⟨v', ms', c3, hC, hM', .inr ⟨?_, rfl, rfl⟩⟩
        simp [ents] at hg; omega
  · refine And.intro rfl (And.intro rfl (And.intro rfl (And.intro rfl (And.intro rfl (And.intro rfl ?_)))))
    refine VCall.mk [] (s_vec_Merge v v2) ⟨rfl, rfl, rfl⟩ ?_
    rintro _ _ ⟨rfl, rfl⟩
    refine And.intro rfl (And.intro rfl ?_)
    refine VCall.mk [1] (s_Clone ms c) ⟨rfl, rfl, rfl⟩ ?_
    rintro _ _ ⟨rfl, rfl⟩
    refine VCall.mk [5, 3] (s_Copy ms ms2 c c2 hm h.nd hm2) ⟨rfl, rfl, rfl⟩ ?_
    rintro _ _ ⟨rfl, ms3, c3, rfl, hm3, hk3, hi3⟩
    refine VCall.mk [5, 4, 6] (s_DeleteFunc (vmax v v2) ms3 c3 hm3 hk3) ⟨rfl, rfl, rfl⟩ ?_
    rintro _ _ ⟨rfl, ms4, rfl, hm4, hk4, hi4⟩
    refine VCall.mk [6, 5] (s_close (vmax v v2) ms4 c3 _ (Pre.merge h h2 hk4 fun d => by rw [hi4, hi3]) hm4) ⟨rfl, rfl, rfl⟩ ?_
    rintro _ _ ⟨rfl, v', ms', hC, hM', rfl⟩
    refine And.intro (fun hg => ?_) (fun hg => ?_)
    · refine VRet.mk [0, 1, 2, 3] (iv 2) [.cells (dcs v 1) T_dots_Dots, dmap ms c, .cells (dcs v2 3) T_dots_Dots, dmap ms2 c2] ⟨rfl, rfl, rfl⟩ ⟨v', ms', c3, hC, hM', .inl ⟨?_, rfl, rfl⟩⟩
      simp [ents] at hg; omega
    · refine VRet.mk [0, 1, 2, 3, 5] (iv 0) [.cells (dcs v' 4) T_dots_Dots, dmap ms c, .cells (dcs v2 3) T_dots_Dots, dmap ms2 c2, dmap ms' c3] ⟨rfl, rfl, rfl⟩ ⟨v', ms', c3, hC, hM', .inr ⟨?_, rfl, rfl⟩⟩
      simp [ents] at hg; omega
end Go.Proofs

namespace Go.Proofs
open Go Go.V
set_option maxRecDepth 100000
set_option linter.unusedVariables false

/-- Those of a list that may be. -/
def Seen (l : List (Int × Int)) (x : Int × Int) : Prop := isDot x.1 x.2 = true ∧ x ∈ l
structure HX where
  i : Nat
  was : Bool
  nw : Int
  v : Nat → Int
  ms : DM
  c : Nat
def HInv (d : List (Int × Int)) (ask : Int × Int) (x : HX) : Prop :=
  x.i ≤ d.length ∧ Canon x.v x.ms (Seen (d.take x.i)) ∧ MOK x.ms x.c ∧ (x.was = true ↔ Seen (d.take x.i) ask) ∧ x.nw = lenOf x.v x.ms ∧ x.nw ≤ x.i

theorem Canon.congr {v : Nat → Int} {ms : DM} {S S' : Int × Int → Prop} (h : Canon v ms S) (hs : ∀ d, S d ↔ S' d) : Canon v ms S' :=
  ⟨⟨h.lo, h.nd, fun d => (hs d).symm.trans (h.seen d), h.far⟩, h.gap⟩
theorem Canon.len_ms {v : Nat → Int} {ms : DM} {S : Int × Int → Prop} (h : Canon v ms S) : (ms.length : Int) ≤ lenOf v ms := by
  have := (sumN_le h.lo 7 (Nat.le_refl _)).1
  unfold lenOf; omega

theorem HInv.step {d : List (Int × Int)} {ask : Int × Int} {i : Nat} {was : Bool} {nw : Int} {v : Nat → Int} {ms : DM} {c : Nat} (h : HInv d ask ⟨i, was, nw, v, ms, c⟩) (hi : i < d.length) (hd : d.length ≤ 60)
    {a : Bool} {e : Int} {v' : Nat → Int} {ms' : DM} {c' : Nat} (hR : AddR v ms (Seen (d.take i)) d[i] a e v' ms') (hM : MOK ms' c') :
    HInv d ask ⟨i + 1, was || (decide (e = 0) && (decide (d[i].1 = ask.1) && decide (d[i].2 = ask.2))), nw + (if a then 1 else 0), v', ms', c'⟩ := by
  obtain ⟨h1, h2, h3, h4, h5, h6⟩ := h
  simp only at h1 h2 h3 h4 h5 h6
  have ht : d.take (i + 1) = d.take i ++ [d[i]] := (List.take_append_getElem hi).symm
  have hlen := h2.len_ms
  have heq : (decide (d[i].1 = ask.1) && decide (d[i].2 = ask.2)) = true ↔ d[i] = ask := by
    simp [Prod.ext_iff]
  have hS : ∀ x, Seen (d.take (i + 1)) x ↔ ((isDot x.1 x.2 = true ∧ x = d[i]) ∨ Seen (d.take i) x) := by
    intro x
    unfold Seen
    rw [ht, List.mem_append, List.mem_singleton]
    constructor
    · rintro ⟨h1, h2 | h2⟩
      · exact .inr ⟨h1, h2⟩
      · exact .inl ⟨h1, h2⟩
    · rintro (⟨h1, h2⟩ | ⟨h1, h2⟩)
      · exact ⟨h1, .inr h2⟩
      · exact ⟨h1, .inl h2⟩
  rcases hR with ⟨r1, rfl, rfl, rfl, rfl⟩ | ⟨r1, r2, rfl, rfl, rfl, rfl⟩ | ⟨_, _, _, r4, _⟩ | ⟨r1, r2, _, rfl, rfl, r4⟩
  · have hS' : ∀ x, Seen (d.take (i + 1)) x ↔ Seen (d.take i) x := by
      intro x; rw [hS]
      constructor
      · rintro (⟨h1, rfl⟩ | h1)
        · rw [r1] at h1; cases h1
        · exact h1
      · exact .inr
    refine ⟨hi, h2.congr fun x => (hS' x).symm, hM, ?_, by simpa using h5, by simp only; omega⟩
    simp only; rw [hS']; simpa using h4
  · have hS' : ∀ x, Seen (d.take (i + 1)) x ↔ Seen (d.take i) x := by
      intro x; rw [hS]
      constructor
      · rintro (⟨h1, rfl⟩ | h1)
        · exact r2
        · exact h1
      · exact .inr
    refine ⟨hi, h2.congr fun x => (hS' x).symm, hM, ?_, by simpa using h5, by simp only; omega⟩
    simp only
    rw [hS', Bool.or_eq_true, h4]
    simp only [decide_true, Bool.true_and]
    rw [heq]
    constructor
    · rintro (h | rfl)
      · exact h
      · exact r2
    · exact .inl
  · omega
  · have hS' : ∀ x, Seen (d.take (i + 1)) x ↔ (x = d[i] ∨ Seen (d.take i) x) := by
      intro x; rw [hS]
      constructor
      · rintro (⟨h1, rfl⟩ | h1)
        · exact .inl rfl
        · exact .inr h1
      · rintro (rfl | h1)
        · exact .inl ⟨r1, rfl⟩
        · exact .inr h1
    refine ⟨hi, r4.congr fun x => (hS' x).symm, hM, ?_, ?_, ?_⟩
    · simp only
      rw [hS', Bool.or_eq_true, h4]
      simp only [decide_true, Bool.true_and]
      rw [heq]
      constructor
      · rintro (h | rfl)
        · exact .inr h
        · exact .inl rfl
      · rintro (h | h)
        · exact .inr h.symm
        · exact .inl h
    · simp only [if_true]
      rw [h2.len_add r4 r2, h5]
    · simp only [if_true]; omega

theorem mem_more_false {l : List (Int × Int)} {i : Nat} (hi : i < l.length) {a b : Int} (h : false = true ↔ (a, b) ∈ l.take i) : (decide (l[i].1 = a) && decide (l[i].2 = b)) = true ↔ (a, b) ∈ l.take (i + 1) := by
  have hn : ¬ (a, b) ∈ l.take i := fun e => Bool.noConfusion (h.2 e)
  rw [← List.take_append_getElem hi, List.mem_append, List.mem_singleton, Bool.and_eq_true, decide_eq_true_iff, decide_eq_true_iff]
  constructor
  · rintro ⟨h1, h2⟩; right; rw [← h1, ← h2]
  · rintro (h1 | h1)
    · exact (hn h1).elim
    · rw [← h1]; exact ⟨rfl, rfl⟩
theorem mem_more_true {l : List (Int × Int)} {i : Nat} (hi : i < l.length) {x : Int × Int} (h : true = true ↔ x ∈ l.take i) : true = true ↔ x ∈ l.take (i + 1) := by
  rw [← List.take_append_getElem hi, List.mem_append]
  exact ⟨fun _ => .inl (h.1 rfl), fun _ => rfl⟩

set_option maxHeartbeats 4000000 in
theorem s_DotsHas (d : List (Int × Int)) (a b : Int) (xs : List Value) (o c : Nat) (te : TypeId) (hr0 : 0 < d.length → Row xs o d.length d) : Ctr Try.prog F_rostrumlaw8_DotsHas [.sl 0 o d.length c, .agg (dcells a b)] [.ro xs te] (fun x H => x = bv true ∧ H = [.ro xs te]) := by
  refine i_rostrumlaw8_DotsHas.spec follows ?_
  refine VCall.mk [] s_awake ⟨rfl, rfl, rfl⟩ ?_
  rintro _ _ ⟨rfl, rfl⟩
  refine And.intro (fun h => absurd h (by decide)) (fun _ => ?_)
  refine And.intro (fun h => ?_) (fun h => ?_)
  · exact VRet.mk [0] (bv _) [.ro xs te] ⟨rfl, rfl, rfl⟩ ⟨rfl, rfl⟩
  have h60 : d.length ≤ 60 := by have := of_decide_eq_false h; omega
  refine VCall.mk [] s_dots_New ⟨rfl, rfl, rfl⟩ ?_
  rintro _ _ ⟨rfl, rfl⟩
  refine VLoop.mk HX (fun x => [(0, .sl 0 o d.length c), (3, .ptr 1 0), (5, .ptr 3 0), (6, bv x.was), (7, iv x.nw), (8, iv x.i)])
    (fun x => [.ro xs te, .cells (dcells a b) T_api_Dot, dmap x.ms x.c, .cells (dcs x.v 2) T_dots_Dots])
    (HInv d (a, b)) (fun x => d.length - x.i) ⟨0, false, 0, fun _ => 0, [], 0⟩ [0, 1, 2, 3] ⟨?_, rfl, rfl, rfl⟩ ?_
  · refine ⟨Nat.zero_le _, Canon.zero.congr fun x => ?_, MOK.nil 0, ?_, by simp [lenOf, sumN], by simp⟩
    · simp [Seen]
    · simp [Seen]
  rintro ⟨i, was, nw, v, ms, c'⟩ hinv g
  have hC := hinv.2.1
  have hMm := hinv.2.2.1
  have hnw : nw = lenOf v ms := hinv.2.2.2.2.1
  have hnwi : nw ≤ (i : Int) := hinv.2.2.2.2.2
  have hlm := hC.len_ms
  simp only at hC hMm hlm
  refine And.intro (fun h => ?_) (fun h => ?_)
  · have h := of_decide_eq_true h
    have hil : i < d.length := by simp only at h; omega
    have hr : Row xs o d.length d := hr0 (by omega)
    have hrl : o + d.length * 2 ≤ xs.length := hr.2.1
    have hwi : IntKind.i64.wrap ((i : Int) + 1) = ((i + 1 : Nat) : Int) := wrap64 (by omega)
    have hwn : IntKind.i64.wrap (nw + 1) = nw + 1 := wrap64 (by omega)
    have hmu : d.length - (i + 1) < d.length - i := by omega
    refine And.intro ⟨Int.natCast_nonneg i, h, hrl⟩ ?_
    refine Exists.intro _ (And.intro (hr.cut i hil) ?_)
    refine VCall.mk [3, 2] (s_Add v ms c' _ hC hMm d[i].1 d[i].2) ⟨rfl, rfl, rfl⟩ ?_
    rintro _ _ ⟨ra, re, v', ms', c'', rfl, rfl, hR, hM'⟩
    have hstep := hinv.step hil h60 hR hM'
    refine And.intro (fun h1 => ?_) (fun h1 => ?_)
    · have h1 : was = false := h1
      subst h1
      refine And.intro (fun h2 => ?_) (fun h2 => ?_)
      · have h2 := of_decide_eq_true h2
        subst h2
        refine And.intro ⟨Int.natCast_nonneg i, h, hrl⟩ ?_
        refine Exists.intro _ (And.intro (hr.cut i hil) ?_)
        refine And.intro (fun h3 => ?_) (fun h3 => ?_)
        · subst h3
          refine Exists.intro _ (And.intro hwn ?_)
          refine Exists.intro _ (And.intro hwi ?_)
          refine Exists.intro ⟨i + 1, (decide (d[i].1 = a) && decide (d[i].2 = b)), nw + 1, v', ms', c''⟩ (Exists.intro [0, 1, 2, 3] (And.intro ⟨by simpa using hstep, hmu⟩ ⟨rfl, rfl, rfl⟩))
        · subst h3
          refine Exists.intro _ (And.intro hwi ?_)
          refine Exists.intro ⟨i + 1, (decide (d[i].1 = a) && decide (d[i].2 = b)), nw, v', ms', c''⟩ (Exists.intro [0, 1, 2, 3] (And.intro ⟨by simpa using hstep, hmu⟩ ⟨rfl, rfl, rfl⟩))
      · have h2 : ¬ re = 0 := of_decide_eq_false h2
        refine And.intro (fun h3 => ?_) (fun h3 => ?_)
        · subst h3
          refine Exists.intro _ (And.intro hwn ?_)
          refine Exists.intro _ (And.intro hwi ?_)
          refine Exists.intro ⟨i + 1, false, nw + 1, v', ms', c''⟩ (Exists.intro [0, 1, 2, 3] (And.intro ⟨by simpa [h2] using hstep, hmu⟩ ⟨rfl, rfl, rfl⟩))
        · subst h3
          refine Exists.intro _ (And.intro hwi ?_)
          refine Exists.intro ⟨i + 1, false, nw, v', ms', c''⟩ (Exists.intro [0, 1, 2, 3] (And.intro ⟨by simpa [h2] using hstep, hmu⟩ ⟨rfl, rfl, rfl⟩))
    · have h1 : was = true := h1
      subst h1
      refine And.intro (fun h3 => ?_) (fun h3 => ?_)
      · subst h3
        refine Exists.intro _ (And.intro hwn ?_)
        refine Exists.intro _ (And.intro hwi ?_)
        refine Exists.intro ⟨i + 1, true, nw + 1, v', ms', c''⟩ (Exists.intro [0, 1, 2, 3] (And.intro ⟨by simpa using hstep, hmu⟩ ⟨rfl, rfl, rfl⟩))
      · subst h3
        refine Exists.intro _ (And.intro hwi ?_)
        refine Exists.intro ⟨i + 1, true, nw, v', ms', c''⟩ (Exists.intro [0, 1, 2, 3] (And.intro ⟨by simpa using hstep, hmu⟩ ⟨rfl, rfl, rfl⟩))
  · have h := of_decide_eq_false h
    have hid : i = d.length := by have := hinv.1; simp only at this h; omega
    subst hid
    have hml : ms.length ≤ 1000000 := by omega
    have hsum := sumN_le hC.lo
    have hwas : was = true ↔ Seen d (a, b) := by have := hinv.2.2.2.1; simpa using this
    rw [List.take_length] at hC
    clear hinv
    refine VCall.mk [3, 2] (s_Loose v ms c' hMm hml) ⟨rfl, rfl, rfl⟩ ?_
    rintro _ _ ⟨d1, o1, c1, ys1, rfl, rfl, hp1, hq1, hr1⟩
    have hs1 : Srt ms d1 := ⟨hp1, hq1⟩
    have hl1 : d1.length = ms.length := by have := hp1.length_eq; simpa [keysOf] using this
    refine VCall.mk [3, 2] (s_dots_Dots_Vec v ms c') ⟨rfl, rfl, rfl⟩ ?_
    rintro _ _ ⟨rfl, rfl⟩
    refine VLoop.mk (Nat × Int) (fun x => [(3, .ptr 1 0), (5, .ptr 3 0), (6, bv was), (7, iv nw), (11, iv x.2), (12, .ptr 4 0), (13, iv x.1)])
      (fun x => [.ro xs te, .cells (dcells a b) T_api_Dot, dmap ms c', .cells (dcs v 2) T_dots_Dots, .cells (vcells v) 33])
      (fun x => x.1 ≤ 7 ∧ x.2 = ms.length + sumN v x.1) (fun x => 7 - x.1) (0, (d1.length : Int)) [0, 1, 2, 3, 5] ⟨⟨Nat.zero_le _, by simp [sumN, hl1]⟩, rfl, rfl, rfl⟩ ?_
    rintro ⟨i, n⟩ ⟨hi, hn⟩ g
    simp only at hi hn
    have hs := hsum i hi
    refine And.intro (fun h => ?_) (fun h => ?_)
    · have h := of_decide_eq_true h
      have hi7 : 0 ≤ (i : Int) ∧ (i : Int) < 7 := ⟨by omega, h⟩
      have := hC.lo i (by simp only at h; omega)
      have hw : IntKind.i64.wrap ((i : Int) + 1) = ((i + 1 : Nat) : Int) := wrap64 (by omega)
      have hw2 : IntKind.i64.wrap (n + v (i : Int).toNat) = (ms.length : Int) + sumN v (i + 1) := by
        rw [wrap64 (by rw [Int.toNat_natCast]; omega), Int.toNat_natCast, sumN]; omega
      have hg : (vcells v)[0 + (i : Int).toNat * 1]? = some (iv (v (i : Int).toNat)) := by have := vcells_get' v hi7 []; simpa using this
      refine And.intro hi7 (Exists.intro _ (And.intro hg ?_))
      refine Exists.intro _ (And.intro hw2 ?_)
      refine Exists.intro _ (And.intro hw ?_)
      refine Exists.intro (i + 1, (ms.length : Int) + sumN v (i + 1)) (Exists.intro [0, 1, 2, 3, 4] (And.intro ⟨⟨by simp only at h ⊢; omega, rfl⟩, by simp only at h ⊢; omega⟩ ⟨rfl, rfl, rfl⟩))
    · have h := of_decide_eq_false h
      have hn7 : n = lenOf v ms := by
        have : i = 7 := by simp only at h; omega
        subst this; rw [hn]; rfl
      subst hn7
      refine VLoop.mk (Nat × Bool) (fun x => [(3, .ptr 1 0), (5, .ptr 3 0), (6, bv was), (7, iv nw), (11, iv (lenOf v ms)), (12, .ptr 4 0), (14, bv x.2), (15, iv x.1)])
        (fun x => [.ro xs te, .cells (dcells a b) T_api_Dot, dmap ms c', .cells (dcs v 2) T_dots_Dots, .cells (vcells v) 33])
        (fun x => x.1 ≤ d1.length ∧ (x.2 = true ↔ (a, b) ∈ d1.take x.1)) (fun x => d1.length - x.1) (0, false) [0, 1, 2, 3, 4] ⟨⟨Nat.zero_le _, by simp⟩, rfl, rfl, rfl⟩ ?_
      rintro ⟨i, lo⟩ ⟨hi, hlo⟩ g
      simp only at hi hlo
      refine VCall.mk [3, 2] (s_Loose v ms c' hMm hml) ⟨rfl, rfl, rfl⟩ ?_
      rintro _ _ ⟨d2, o2, c2, ys2, rfl, rfl, hp2, hq2, hr2⟩
      obtain rfl : d2 = d1 := Srt.uniq ⟨hp2, hq2⟩ hs1
      refine And.intro (fun h => ?_) (fun h => ?_)
      · have h := of_decide_eq_true h
        have hil : i < d2.length := by simp only at h; omega
        have hw : IntKind.i64.wrap ((i : Int) + 1) = ((i + 1 : Nat) : Int) := wrap64 (by omega)
        have ht : d2.take (i + 1) = d2.take i ++ [d2[i]] := (List.take_append_getElem hil).symm
        have hmu : d2.length - (i + 1) < d2.length - i := by omega
        refine And.intro (fun h1 => ?_) (fun h1 => ?_)
        · have h1 : lo = false := h1
          subst h1
          refine VCall.mk [3, 2] (s_Loose v ms c' hMm hml) ⟨rfl, rfl, rfl⟩ ?_
          rintro _ _ ⟨d3, o3, c3, ys3, rfl, rfl, hp3, hq3, hr3⟩
          obtain rfl : d3 = d2 := Srt.uniq ⟨hp3, hq3⟩ hs1
          have hrl3 : o3 + d3.length * 2 ≤ ys3.length := by have := hr3.1; have := hr3.2.1; omega
          refine And.intro rfl ?_
          refine And.intro ⟨Int.natCast_nonneg i, h, hrl3⟩ ?_
          refine Exists.intro _ (And.intro (hr3.cut i hil) ?_)
          refine Exists.intro _ (And.intro hw ?_)
          refine Exists.intro (i + 1, (decide (d3[i].1 = a) && decide (d3[i].2 = b))) (Exists.intro [0, 1, 2, 3, 4] (And.intro ⟨⟨hil, ?_⟩, hmu⟩ ⟨rfl, rfl, rfl⟩))
          exact mem_more_false hil hlo
        · have h1 : lo = true := h1
          subst h1
          refine And.intro rfl ?_
          refine Exists.intro _ (And.intro hw ?_)
          exact Exists.intro (i + 1, true) (Exists.intro [0, 1, 2, 3, 4] (And.intro ⟨⟨hil, mem_more_true hil hlo⟩, hmu⟩ ⟨rfl, rfl, rfl⟩))
      · have h := of_decide_eq_false h
        have hlo : lo = inM ms (a, b) := by
          have : i = d2.length := by simp only at h; omega
          subst this
          rw [List.take_length, hs1.mem] at hlo
          exact Bool.eq_iff_iff.2 hlo
        have hW : was = (has v a b || inM ms (a, b)) := by
          rw [Bool.eq_iff_iff, hwas, hC.seen, Bool.or_eq_true]
        subst hlo hW
        refine VCall.mk [3, 2] (s_dots_Dots_Has v ms c' a b) ⟨rfl, rfl, rfl⟩ ?_
        rintro _ _ ⟨rfl, rfl⟩
        refine And.intro (fun _ => ?_) (fun h => absurd h (by simp))
        refine VCall.mk [] (s_vec_Has v a b) ⟨rfl, rfl, rfl⟩ ?_
        rintro _ _ ⟨rfl, rfl⟩
        refine And.intro (fun h8 => ?_) (fun h8 => ?_)
        · refine And.intro (fun _ => ?_) (fun h9 => absurd h9 (by simp [h8]))
          refine VCall.mk [3, 2] (s_Len v ms c' hC.lo hml) ⟨rfl, rfl, rfl⟩ ?_
          rintro _ _ ⟨rfl, rfl⟩
          refine And.intro (fun _ => ?_) (fun h9 => absurd h9 (by simp))
          refine VRet.mk [0] (bv _) [.ro xs te] ⟨rfl, rfl, rfl⟩ ⟨?_, rfl⟩
          show bv _ = bv _
          simp [hnw]
        · refine And.intro (fun _ => ?_) (fun h9 => absurd h9 (by simp [h8]))
          refine VCall.mk [3, 2] (s_Len v ms c' hC.lo hml) ⟨rfl, rfl, rfl⟩ ?_
          rintro _ _ ⟨rfl, rfl⟩
          refine And.intro (fun _ => ?_) (fun h9 => absurd h9 (by simp))
          refine VRet.mk [0] (bv _) [.ro xs te] ⟨rfl, rfl, rfl⟩ ⟨?_, rfl⟩
          show bv _ = bv _
          simp [hnw]
end Go.Proofs

namespace Go.Proofs
open Go Go.V
set_option maxRecDepth 100000
set_option linter.unusedVariables false

theorem Canon.len_list {v : Nat → Int} {ms : DM} {S : Int × Int → Prop} (h : Canon v ms S) {L : List (Int × Int)} (hL : ∀ d, S d → d ∈ L) : lenOf v ms ≤ L.length := by
  rw [← h.len_all]
  have := nodup_len h.nodup (m := L) (fun x hx => hL x ((h.mem_all x).1 hx))
  omega
theorem Seen.step {l : List (Int × Int)} {i : Nat} (hi : i < l.length) (x : Int × Int) : Seen (l.take (i + 1)) x ↔ ((isDot x.1 x.2 = true ∧ x = l[i]) ∨ Seen (l.take i) x) := by
  unfold Seen
  rw [← List.take_append_getElem hi, List.mem_append, List.mem_singleton]
  constructor
  · rintro ⟨h1, h2 | h2⟩
    · exact .inr ⟨h1, h2⟩
    · exact .inl ⟨h1, h2⟩
  · rintro (⟨h1, h2⟩ | ⟨h1, h2⟩)
    · exact ⟨h1, .inr h2⟩
    · exact ⟨h1, .inl h2⟩
/-- One more of a list is added. -/
theorem Canon.addL {v : Nat → Int} {ms : DM} {l : List (Int × Int)} {i : Nat} (h : Canon v ms (Seen (l.take i))) (hi : i < l.length) (hl : l.length ≤ 900) {a : Bool} {e : Int} {v' : Nat → Int} {ms' : DM} (hR : AddR v ms (Seen (l.take i)) l[i] a e v' ms') :
    Canon v' ms' (Seen (l.take (i + 1))) := by
  have hlen := h.len_ms
  have hlist := h.len_list (L := l.take i) (fun d hd => hd.2)
  simp only [List.length_take] at hlist
  rcases hR with ⟨r1, _, _, rfl, rfl⟩ | ⟨r1, r2, _, _, rfl, rfl⟩ | ⟨_, _, _, r4, _⟩ | ⟨r1, r2, _, _, _, r4⟩
  · refine h.congr fun x => ?_
    rw [Seen.step hi]
    constructor
    · exact .inr
    · rintro (⟨h1, rfl⟩ | h1)
      · rw [r1] at h1; cases h1
      · exact h1
  · refine h.congr fun x => ?_
    rw [Seen.step hi]
    constructor
    · exact .inr
    · rintro (⟨h1, rfl⟩ | h1)
      · exact r2
      · exact h1
  · omega
  · refine r4.congr fun x => ?_
    rw [Seen.step hi]
    constructor
    · rintro (rfl | h1)
      · exact .inl ⟨r1, rfl⟩
      · exact .inr h1
    · rintro (⟨h1, rfl⟩ | h1)
      · exact .inl rfl
      · exact .inr h1
theorem Canon.eqM {v v' : Nat → Int} {ms ms' : DM} {S S' : Int × Int → Prop} (h : Canon v ms S) (h' : Canon v' ms' S') (hs : ∀ d, S d ↔ S' d) : (∀ i, i < 7 → v i = v' i) ∧ EqM ms ms' := by
  obtain ⟨h1, h2, h3⟩ := h.uniq h' hs
  refine ⟨h1, ?_, fun d hd => by rw [← h2]; exact hd⟩
  have := h3.length_eq
  simpa [keysOf] using this
theorem seen_nil (x : Int × Int) : False ↔ Seen ([] : List (Int × Int)) x := by simp [Seen]
theorem canon_start (l : List (Int × Int)) : Canon (fun _ => 0) [] (Seen (l.take 0)) := Canon.zero.congr fun x => by simp [Seen]
theorem rev_get {l : List (Int × Int)} {i : Nat} (hi : i < l.length) : l.reverse[i]'(by simpa using hi) = l[l.length - 1 - i]'(by omega) := by simp
end Go.Proofs

