/- Plain laws: a board turned. -/
import Derived.Test.YtaldkopkfdgngaaGreatDoorL15
set_option linter.all false
set_option maxRecDepth 100000
namespace Go.Proofs.YtaldkopkfdgngaaGreatDoor
open Go Am

def fl (s : Int) : Int := 8 * (7 - s / 8) + s % 8
theorem fl_in {s : Int} (h : 0 ≤ s ∧ s < 64) : 0 ≤ fl s ∧ fl s < 64 := by unfold fl; omega
theorem fl_fl {s : Int} (h : 0 ≤ s ∧ s < 64) : fl (fl s) = s := by unfold fl; omega
theorem fl_mod {s : Int} (h : 0 ≤ s ∧ s < 64) : fl s % 8 = s % 8 := by unfold fl; omega
theorem fl_div {s : Int} (h : 0 ≤ s ∧ s < 64) : fl s / 8 = 7 - s / 8 := by unfold fl; omega
theorem fl_inj {s t : Int} (hs : 0 ≤ s ∧ s < 64) (ht : 0 ≤ t ∧ t < 64) (h : fl s = fl t) : s = t := by rw [← fl_fl hs, h, fl_fl ht]

/-- A board of men. -/
structure Mb (b : List Int) : Prop where
  len : b.length = 64
  men : ∀ i : Nat, -6 ≤ b.getD i 0 ∧ b.getD i 0 ≤ 6
theorem Mb.set {b : List Int} (h : Mb b) {i : Nat} (hi : i < 64) {x : Int} (hx : -6 ≤ x ∧ x ≤ 6) : Mb (b.set i x) := by
  refine ⟨by simp [h.len], fun j => ?_⟩
  rw [getD_set _ _ _ _ (by rw [h.len]; exact hi)]
  split
  · exact hx
  · exact h.men j
theorem Mb.bd {b : List Int} (h : Mb b) : Bd b := by
  refine ⟨h.len, fun x hx => ?_⟩
  obtain ⟨i, hi, rfl⟩ := List.mem_iff_getElem.1 hx
  have := h.men i
  rw [List.getD_eq_getElem?_getD, List.getElem?_eq_getElem hi] at this
  simp at this
  omega

def tB (b : List Int) : List Int := (List.range 64).map fun (i : Nat) => 0 - b.getD (fl (i : Int)).toNat 0
theorem tB_len (b : List Int) : (tB b).length = 64 := by simp [tB]
theorem tB_nat (b : List Int) {i : Nat} (h : i < 64) : (tB b).getD i 0 = 0 - b.getD (fl (i : Int)).toNat 0 := by
  unfold tB
  rw [List.getD_eq_getElem?_getD, List.getElem?_map, List.getElem?_range h]
  rfl
theorem tB_at (b : List Int) {s : Int} (h : 0 ≤ s ∧ s < 64) : (tB b).getD s.toNat 0 = 0 - b.getD (fl s).toNat 0 := by
  rw [tB_nat b (by omega), Int.toNat_of_nonneg h.1]
theorem tB_fl (b : List Int) {s : Int} (h : 0 ≤ s ∧ s < 64) : (tB b).getD (fl s).toNat 0 = 0 - b.getD s.toNat 0 := by
  rw [tB_at b (fl_in h), fl_fl h]
theorem ext64 {a b : List Int} (ha : a.length = 64) (hb : b.length = 64) (h : ∀ s : Int, 0 ≤ s → s < 64 → a.getD s.toNat 0 = b.getD s.toNat 0) : a = b := by
  apply List.ext_getElem (by omega)
  intro i h1 h2
  have := h (i : Int) (by omega) (by omega)
  rw [Int.toNat_natCast, List.getD_eq_getElem?_getD, List.getElem?_eq_getElem h1, List.getD_eq_getElem?_getD, List.getElem?_eq_getElem h2] at this
  simpa using this
theorem Mb.tB {b : List Int} (h : Mb b) : Mb (tB b) := by
  refine ⟨tB_len b, fun i => ?_⟩
  rcases Nat.lt_or_ge i 64 with hi | hi
  · rw [tB_nat b hi]
    have := h.men (fl (i : Int)).toNat
    omega
  · rw [List.getD_eq_getElem?_getD, List.getElem?_eq_none (by rw [tB_len]; exact hi)]
    simp

theorem neg_right_eq (m : Int) : rightM (0 - m) = rightM m := by
  rw [Bool.eq_iff_iff]; simp [rightM]; omega
theorem neg_kind (m : Int) : kindM (0 - m) = kindM m := by
  unfold kindM
  rw [neg_right_eq]
  cases rightM m with
  | false => rfl
  | true => simp only [cond_true]; split <;> split <;> omega
theorem neg_side {m : Int} (h : rightM m = true) : sideM (0 - m) = 1 - sideM m := by
  rcases men_cases h with rfl | rfl | rfl | rfl | rfl | rfl | rfl | rfl | rfl | rfl | rfl | rfl <;> rfl
theorem side_none {m : Int} (h : rightM m = false) : sideM m = -1 := by unfold sideM; rw [h]; rfl
theorem neg_sideB (m : Int) {t : Int} (ht : t = 0 ∨ t = 1) : (sideM (0 - m) == 1 - t) = (sideM m == t) := by
  cases h : rightM m with
  | true =>
    rw [neg_side h, Bool.eq_iff_iff]; simp <;> omega
  | false =>
    rw [side_none h, side_none (by rw [neg_right_eq]; exact h)]
    rcases ht with rfl | rfl <;> rfl
theorem neg_make (k : Int) {t : Int} (ht : t = 0 ∨ t = 1) : makeM k (1 - t) = 0 - makeM k t := by
  unfold makeM
  by_cases h1 : k < 1
  · simp [h1]
  · by_cases h2 : k > 6
    · simp [h1, h2]
    · rcases ht with rfl | rfl
      · simp [h1, h2]
      · simp [h1, h2]
theorem neg_isM (kind m : Int) {t : Int} (ht : t = 0 ∨ t = 1) : isM kind (1 - t) (0 - m) = isM kind t m := by
  unfold isM
  rw [neg_right_eq, neg_kind, neg_sideB m ht]

theorem right_at {b : List Int} (hr : rightB b = true) (i : Nat) : b.getD i 0 = 0 ∨ rightM (b.getD i 0) = true := by
  rcases Nat.lt_or_ge i b.length with hi | hi
  · unfold rightB at hr
    rw [List.all_eq_true] at hr
    have := hr _ (List.getElem_mem hi)
    rw [List.getD_eq_getElem?_getD, List.getElem?_eq_getElem hi]
    simpa using this
  · rw [List.getD_eq_getElem?_getD, List.getElem?_eq_none hi]; exact .inl rfl
theorem mb_of {b : List Int} (hl : b.length = 64) (hr : rightB b = true) : Mb b := by
  refine ⟨hl, fun i => ?_⟩
  rcases right_at hr i with h | h
  · omega
  · have := rightM_bounds h; omega
theorem tB_right {b : List Int} (hr : rightB b = true) : rightB (tB b) = true := by
  unfold rightB tB
  rw [List.all_eq_true]
  intro x hx
  obtain ⟨i, _, rfl⟩ := List.mem_map.1 hx
  rcases right_at hr (fl (i : Int)).toNat with h | h
  · rw [h]; rfl
  · rw [neg_right_eq, h, Bool.or_true]

theorem perm64 : ((List.range 64).map fun (i : Nat) => (fl (i : Int)).toNat).Perm (List.range 64) := List.isPerm_iff.1 (by kernel_rfl)
theorem eq_map {b : List Int} (hl : b.length = 64) : b = (List.range 64).map fun i => b.getD i 0 := by
  apply List.ext_getElem (by simp [hl])
  intro i h1 h2
  simp [List.getD_eq_getElem?_getD, List.getElem?_eq_getElem h1]
theorem tB_count {b : List Int} (hl : b.length = 64) (p : Int → Bool) : (tB b).countP p = b.countP fun x => p (0 - x) := by
  have e : tB b = (((List.range 64).map fun (i : Nat) => (fl (i : Int)).toNat).map fun i => 0 - b.getD i 0) := by
    unfold tB; rw [List.map_map]; rfl
  rw [e, List.countP_map, perm64.countP_eq]
  conv => rhs; rw [eq_map hl, List.countP_map]
  rfl
theorem tB_many {b : List Int} (hl : b.length = 64) (kind : Int) {t : Int} (ht : t = 0 ∨ t = 1) : manyB (tB b) kind (1 - t) = manyB b kind t := by
  unfold manyB
  rw [tB_count hl]
  congr 2
  funext x
  exact neg_isM kind x ht

theorem rankS_fl {s : Int} (h : 0 ≤ s ∧ s < 64) : rankS (fl s) = 7 - rankS s := by rw [rankS_of h, rankS_of (fl_in h), fl_div h]
theorem fileS_fl {s : Int} (h : 0 ≤ s ∧ s < 64) : fileS (fl s) = fileS s := by rw [fileS_of h, fileS_of (fl_in h), fl_mod h]

theorem tB_rim {b : List Int} (h : rimB b = false) : rimB (tB b) = false := by
  cases hq : rimB (tB b) with
  | false => rfl
  | true =>
    unfold rimB at hq h
    rw [List.any_eq_true] at hq
    obtain ⟨s, hs, hp⟩ := hq
    have hs' : s < 64 := by simp [List.mem_range'_1] at hs; exact hs
    have bs : 0 ≤ (s : Int) ∧ (s : Int) < 64 := by omega
    have bf := fl_in bs
    rw [List.any_eq_false] at h
    have := h (fl (s : Int)).toNat (by simp [List.mem_range'_1]; omega)
    apply absurd _ this
    rw [tB_nat b hs', neg_kind] at hp
    rw [Int.toNat_of_nonneg bf.1, rankS_fl bs]
    have hr := rankS_bounds (s : Int)
    simp only [Bool.and_eq_true, Bool.or_eq_true, beq_iff_eq] at hp ⊢
    refine ⟨hp.1, ?_⟩
    rcases hp.2 with h2 | h2 <;> omega

theorem tB_wrong {b : List Int} (hb : Bd b) (h : wrongB b = 0) : wrongB (tB b) = 0 := by
  have hm : ∀ kind, manyB (tB b) kind 0 = manyB b kind 1 := fun kind => tB_many hb.1 kind (.inr rfl)
  have hm' : ∀ kind, manyB (tB b) kind 1 = manyB b kind 0 := fun kind => tB_many hb.1 kind (.inl rfl)
  obtain ⟨h1, h2, h3⟩ := wrongB_spec (b := b) (by rw [h]; rfl)
  have hz : Ty.beq (.arr 64 (.int .i8)) (tB b) (List.replicate 64 (0 : Int)) = false := by
    cases hq : Ty.beq (.arr 64 (.int .i8)) (tB b) (List.replicate 64 (0 : Int)) with
    | false => rfl
    | true =>
      have h4 := beqL_rep 64 (tB b) hq
      have h5 := hm 6
      rw [h3] at h5
      unfold manyB at h5
      rw [kings0, h4] at h5
      cases h5
  unfold wrongB at h ⊢
  rw [h1, h2, h3] at h
  rw [tB_right h1, hz, hm, hm', hm, hm', h2, h3]
  cases hz2 : Ty.beq (.arr 64 (.int .i8)) b (List.replicate 64 (0 : Int)) with
  | true => rw [hz2] at h; cases h
  | false =>
    rw [hz2] at h
    cases hr : rimB b with
    | true => rw [hr] at h; cases h
    | false =>
      rw [hr] at h
      rw [tB_rim hr]
      cases h8 : decide (manyB b 0 0 > 16) with
      | true => rw [h8] at h; cases h
      | false =>
        cases h9 : decide (manyB b 0 1 > 16) with
        | true => rw [h8, h9] at h; cases h
        | false => rfl

theorem count_pos {p : Int → Bool} {l : List Int} {i : Nat} (hi : i < l.length) (h : p (l.getD i 0) = true) : 0 < l.countP p := by
  rw [List.countP_pos_iff]
  refine ⟨l[i], List.getElem_mem hi, ?_⟩
  rw [List.getD_eq_getElem?_getD, List.getElem?_eq_getElem hi] at h
  exact h
theorem count_uniq {p : Int → Bool} : ∀ (l : List Int) (i j : Nat), l.countP p = 1 → i < l.length → j < l.length → p (l.getD i 0) = true → p (l.getD j 0) = true → i = j
  | [], i, j, h, hi, hj, pi, pj => by simp at hi
  | x :: l, 0, 0, h, hi, hj, pi, pj => rfl
  | x :: l, i + 1, j + 1, h, hi, hj, pi, pj => by
    have hi' : i < l.length := by simpa using hi
    have hj' : j < l.length := by simpa using hj
    rw [List.getD_cons_succ] at pi pj
    have c := count_pos hi' pi
    rw [countP_one] at h
    rw [count_uniq l i j (by omega) hi' hj' pi pj]
  | x :: l, 0, j + 1, h, hi, hj, pi, pj => by
    have hj' : j < l.length := by simpa using hj
    rw [List.getD_cons_succ] at pj
    rw [List.getD_cons_zero] at pi
    have c := count_pos hj' pj
    rw [countP_one] at h
    unfold one at h
    rw [pi] at h
    simp only [cond_true] at h
    omega
  | x :: l, i + 1, 0, h, hi, hj, pi, pj => by
    have hi' : i < l.length := by simpa using hi
    rw [List.getD_cons_succ] at pi
    rw [List.getD_cons_zero] at pj
    have c := count_pos hi' pi
    rw [countP_one] at h
    unfold one at h
    rw [pj] at h
    simp only [cond_true] at h
    omega

theorem tB_king {b : List Int} (hb : Bd b) (h : wrongB b = 0) : kingB (tB b) 0 = fl (kingB b 1) ∧ kingB (tB b) 1 = fl (kingB b 0) := by
  obtain ⟨h1, h2, h3⟩ := wrongB_spec (b := b) (by rw [h]; rfl)
  have hm := mb_of hb.1 h1
  obtain ⟨a1, a2, a3, a4, _, a5, a6⟩ := kings_spec hb (by rw [h]; rfl)
  obtain ⟨c1, c2, c3, c4, _, c5, c6⟩ := kings_spec hm.tB.bd (by rw [tB_wrong hb h]; rfl)
  rw [tB_at b ⟨c1, c2⟩] at c5
  rw [tB_at b ⟨c3, c4⟩] at c6
  have d1 := fl_in ⟨c1, c2⟩
  have d2 := fl_in ⟨c3, c4⟩
  unfold manyB at h2 h3
  rw [kings0] at h2
  rw [kings1] at h3
  constructor
  · have := count_uniq b (fl (kingB (tB b) 0)).toNat (kingB b 1).toNat (p := (· == -6)) (by omega) (by rw [hb.1]; omega) (by rw [hb.1]; omega) (by simp only [beq_iff_eq]; omega) (by simp only [beq_iff_eq]; omega)
    rw [← show fl (kingB (tB b) 0) = kingB b 1 by omega, fl_fl ⟨c1, c2⟩]
  · have := count_uniq b (fl (kingB (tB b) 1)).toNat (kingB b 0).toNat (p := (· == 6)) (by omega) (by rw [hb.1]; omega) (by rw [hb.1]; omega) (by simp only [beq_iff_eq]; omega) (by simp only [beq_iff_eq]; omega)
    rw [← show fl (kingB (tB b) 1) = kingB b 0 by omega, fl_fl ⟨c3, c4⟩]

theorem far_fl {a b : Int} (ha : 0 ≤ a ∧ a < 64) (hb : 0 ≤ b ∧ b < 64) : farS (fl a) (fl b) = farS b a := by
  unfold farS gapS
  rw [rightS_iff.2 ha, rightS_iff.2 hb, rightS_iff.2 (fl_in ha), rightS_iff.2 (fl_in hb), rankS_fl ha, rankS_fl hb, fileS_fl ha, fileS_fl hb]
  simp only [Bool.and_self, cond_true]
  repeat' split
  all_goals omega

theorem stepS_fl {s : Int} (hs : 0 ≤ s ∧ s < 64) (f r : Int) : stepS (fl s) f (0 - r) = (stepS s f r).map fl := by
  unfold stepS
  rw [rightS_iff.2 hs, rightS_iff.2 (fl_in hs), fl_mod hs, fl_div hs]
  have e1 : onS (7 - s / 8 + (0 - r)) = onS (s / 8 + r) := by rw [Bool.eq_iff_iff, onS_iff, onS_iff]; omega
  have e2 : (decide (-8 < 0 - r) && decide (0 - r < 8)) = (decide (-8 < r) && decide (r < 8)) := by
    rw [Bool.eq_iff_iff]; simp only [Bool.and_eq_true, decide_eq_true_eq]; omega
  rw [e1, e2]
  cases hc : (true && (decide (-8 < f) && decide (f < 8) && (decide (-8 < r) && decide (r < 8))) && (onS (s % 8 + f) && onS (s / 8 + r))) with
  | false => rfl
  | true =>
    simp only [Bool.and_eq_true] at hc
    have h1 := onS_iff.1 hc.2.1
    have h2 := onS_iff.1 hc.2.2
    simp only [cond_true, Option.map_some]
    congr 1
    unfold fl
    omega
theorem walkS_fl : ∀ (n : Nat) {s : Int} (hs : 0 ≤ s ∧ s < 64) (f r : Int), walkS n (fl s) f (0 - r) = (walkS n s f r).map fl
  | 0, _, _, _, _ => rfl
  | n + 1, s, hs, f, r => by
    simp only [walkS, stepS_fl hs]
    cases ht : stepS s f r with
    | none => rfl
    | some t =>
      simp only [Option.map_some]
      have : (0 - r == 0) = (r == 0) := by rw [Bool.eq_iff_iff]; simp
      rw [this, walkS_fl n (stepS_right ht) f r]
      cases (f == 0 && (r == 0 && true)) <;> rfl
theorem rayHit_fl (b : List Int) (man : Int) : ∀ l : List Int, (∀ t ∈ l, 0 ≤ t ∧ t < 64) → rayHit (tB b) (0 - man) (l.map fl) = rayHit b man l
  | [], _ => rfl
  | t :: l, h => by
    simp only [List.map_cons, rayHit, tB_fl b (h t (by simp)), rayHit_fl b man l (fun x hx => h x (by simp [hx]))]
    have e1 : (0 - b.getD t.toNat 0 == 0 - man) = (b.getD t.toNat 0 == man) := by rw [Bool.eq_iff_iff]; simp only [beq_iff_eq]; omega
    have e2 : (0 - b.getD t.toNat 0 == 0) = (b.getD t.toNat 0 == 0) := by rw [Bool.eq_iff_iff]; simp only [beq_iff_eq]; omega
    rw [e1, e2]

def turnB : Bool := (List.range' 1 6).all fun k => [(0 : Int), 1].all fun t => mostM (0 - makeM (k : Nat) (1 - t)) == mostM (0 - makeM (k : Nat) t) &&
  (stepsM (0 - makeM (k : Nat) (1 - t))).all fun y => (stepsM (0 - makeM (k : Nat) t)).any fun z => z.1 == y.1 && z.2.1 == 0 - y.2.1
theorem turn_all : turnB = true := by kernel_rfl

theorem hits_fl {b : List Int} {s : Int} (hs : 0 ≤ s ∧ s < 64) {t : Int} (ht : t = 0 ∨ t = 1) (h : hitsB (tB b) (fl s) (1 - t) = true) : hitsB b s t = true := by
  unfold hitsB at h ⊢
  rw [List.any_eq_true] at h ⊢
  obtain ⟨k, hk, hh⟩ := h
  refine ⟨k, hk, ?_⟩
  have hT := turn_all
  unfold turnB at hT
  rw [List.all_eq_true] at hT
  have h1 := hT k hk
  rw [List.all_eq_true] at h1
  have h2 := h1 t (by rcases ht with rfl | rfl <;> simp)
  simp only [Bool.and_eq_true, beq_iff_eq] at h2
  obtain ⟨h3, h4⟩ := h2
  unfold alongHit at hh ⊢
  rw [List.any_eq_true] at hh ⊢
  obtain ⟨y, hy, hr⟩ := hh
  rw [List.all_eq_true] at h4
  have h5 := h4 y hy
  rw [List.any_eq_true] at h5
  obtain ⟨z, hz, hzy⟩ := h5
  simp only [Bool.and_eq_true, beq_iff_eq] at hzy
  refine ⟨z, hz, ?_⟩
  rw [h3, show y.2.1 = 0 - z.2.1 by omega, ← hzy.1, walkS_fl _ hs, neg_make _ ht, rayHit_fl b _ _ (walkS_right _ _ _ _)] at hr
  exact hr

theorem check_fl {b : List Int} (hb : Bd b) (h : wrongB b = 0) {t : Int} (ht : t = 0 ∨ t = 1) (hc : checkB b t = false) : checkB (tB b) (1 - t) = false := by
  cases hq : checkB (tB b) (1 - t) with
  | false => rfl
  | true =>
    obtain ⟨h1, h2, h3⟩ := wrongB_spec (b := b) (by rw [h]; rfl)
    obtain ⟨a1, a2, a3, a4, _, _, _⟩ := kings_spec hb (by rw [h]; rfl)
    have hk : kingB (tB b) (1 - t) = fl (kingB b t) ∧ (0 ≤ kingB b t ∧ kingB b t < 64) ∧ otherS (1 - t) = 1 - otherS t ∧ decide (otherS (otherS t) ≥ 0) = true ∧ (otherS t = 0 ∨ otherS t = 1) := by
      have hK := tB_king hb h
      rcases ht with rfl | rfl
      · exact ⟨hK.2, ⟨a1, a2⟩, rfl, rfl, .inr rfl⟩
      · exact ⟨hK.1, ⟨a3, a4⟩, rfl, rfl, .inl rfl⟩
    obtain ⟨k1, k2, k3, k4, k5⟩ := hk
    rw [← hc]
    unfold checkB at hq ⊢
    rw [k1, k3] at hq
    simp only [Bool.and_eq_true] at hq
    have := hits_fl k2 k5 hq.2.2.2
    rw [this, k4, h1, rightS_iff.2 k2, show decide (kingB b t ≥ 0) = true by simp; omega]
    rfl

end Go.Proofs.YtaldkopkfdgngaaGreatDoor

