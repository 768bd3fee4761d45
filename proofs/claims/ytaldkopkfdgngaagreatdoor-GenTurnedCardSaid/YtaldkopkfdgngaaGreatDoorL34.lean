/- Plain laws: the moves of a square are in order, none twice. -/
import Derived.Test.YtaldkopkfdgngaaGreatDoorL33
set_option linter.all false
set_option maxRecDepth 100000
namespace Go.Proofs.YtaldkopkfdgngaaGreatDoor
open Go Am

def fanS (m s : Int) : List Int := (stepsM m).flatMap fun y => walkS (mostM m) s y.1 y.2.1
def onceB : List Int → Bool
  | [] => true
  | x :: l => !(l.any fun y => x == y) && onceB l
theorem onceB_nodup : ∀ l : List Int, onceB l = true → l.Nodup
  | [], _ => List.nodup_nil
  | x :: l, h => by
    simp only [onceB, Bool.and_eq_true, Bool.not_eq_true', List.any_eq_false, beq_iff_eq] at h
    exact List.nodup_cons.2 ⟨fun hx => h.1 x hx rfl, onceB_nodup l h.2⟩
def fansB : Bool := men12.all fun m => (List.range 64).all fun s => onceB (fanS m (s : Nat))
theorem fans_all : fansB = true := by kernel_rfl
theorem fan_nodup {m s : Int} (hm : rightM m = true) (hs : 0 ≤ s ∧ s < 64) : (fanS m s).Nodup := by
  have h := fans_all
  unfold fansB at h
  rw [List.all_eq_true] at h
  have h1 := h m (by rcases men_cases hm with rfl | rfl | rfl | rfl | rfl | rfl | rfl | rfl | rfl | rfl | rfl | rfl <;> decide)
  rw [List.all_eq_true] at h1
  have h2 := h1 s.toNat (by simp; omega)
  rw [Int.toNat_of_nonneg hs.1] at h2
  exact onceB_nodup _ h2

theorem scanS_sub (b : List Int) : ∀ l : List Int, (scanS b l).Sublist l
  | [] => List.Sublist.slnil
  | t :: l => by
    simp only [scanS]
    cases b.getD t.toNat 0 == 0 with
    | true => exact (scanS_sub b l).cons₂ t
    | false => exact (List.nil_sublist l).cons₂ t
theorem alongS_sub (b : List Int) (s : Int) (n : Nat) : ∀ l : List StepD, (alongS b s n l).Sublist (l.flatMap fun y => walkS n s y.1 y.2.1)
  | [] => List.Sublist.slnil
  | y :: l => by
    have ih := alongS_sub b s n l
    unfold alongS at ih ⊢
    rw [List.flatMap_cons, List.flatMap_cons]
    exact (scanS_sub b _).append ih

theorem strikes_nodup (b : List Int) (s : Int) : (strikesL b s).Nodup := by
  unfold strikesL
  cases hq : rightS s && rightB b && !(b.getD s.toNat 0 == 0) with
  | false => exact List.nodup_nil
  | true =>
    simp only [Bool.and_eq_true, Bool.not_eq_true', beq_eq_false_iff_ne] at hq
    obtain ⟨⟨h1, h2⟩, h3⟩ := hq
    have hm : rightM (b.getD s.toNat 0) = true := (right_at h2 _).resolve_left h3
    simp only [cond_true]
    rw [(sort_perm _).nodup_iff]
    exact (alongS_sub b s _ _).nodup (fan_nodup hm (rightS_iff.1 h1))
theorem jumps_nodup (p : PosD) (s : Int) : (jumpsL p s).Nodup := (strikes_nodup p.1 s).filter _

theorem upT_eq {t : Int} (ht : t = 0 ∨ t = 1) : upT t = 8 * aheadT t ∧ (aheadT t = 1 ∨ aheadT t = -1) := by
  rcases ht with rfl | rfl
  · exact ⟨rfl, .inl rfl⟩
  · exact ⟨rfl, .inr rfl⟩
theorem stepS_up {s r : Int} (hs : 0 ≤ s ∧ s < 64) (hr : -8 < r ∧ r < 8) : stepS s 0 r = if 0 ≤ s + 8 * r ∧ s + 8 * r < 64 then some (s + 8 * r) else none := by
  unfold stepS
  by_cases h : 0 ≤ s + 8 * r ∧ s + 8 * r < 64
  · rw [if_pos h, rightS_iff.2 hs, onS_iff.2 (show 0 ≤ s % 8 + 0 ∧ s % 8 + 0 < 8 by omega), onS_iff.2 (show 0 ≤ s / 8 + r ∧ s / 8 + r < 8 by omega),
      show (decide ((-8 : Int) < 0) && decide ((0 : Int) < 8)) = true from rfl, show (decide (-8 < r) && decide (r < 8)) = true by simp; omega]
    simp only [Bool.and_true, cond_true]
    rw [show 8 * (s / 8 + r) + (s % 8 + 0) = s + 8 * r by omega]
  · rw [if_neg h]
    have : onS (s / 8 + r) = false := by
      cases hq : onS (s / 8 + r) with
      | false => rfl
      | true => have := onS_iff.1 hq; omega
    rw [this]
    simp

theorem stepL_iff {p : PosD} (ht : p.2.1 = 0 ∨ p.2.1 = 1) {s t : Int} (hs : 0 ≤ s ∧ s < 64) :
    t ∈ stepL p s ↔ (0 ≤ t ∧ t < 64) ∧ atM p t = 0 ∧ (t = s + upT p.2.1 ∨ (t = s + 2 * upT p.2.1 ∧ rankS s = secondT p.2.1 ∧ atM p (s + upT p.2.1) = 0)) := by
  obtain ⟨hu, ha⟩ := upT_eq ht
  unfold stepL
  rw [stepS_up hs (by omega), stepS_up hs (r := 2 * aheadT p.2.1) (by omega), hu]
  generalize aheadT p.2.1 = a at ha hu
  by_cases h1 : 0 ≤ s + 8 * a ∧ s + 8 * a < 64
  · rw [if_pos h1]
    simp only
    rw [show p.1.getD (s + 8 * a).toNat 0 = atM p (s + 8 * a) from rfl]
    by_cases h2 : atM p (s + 8 * a) = 0
    · rw [show (atM p (s + 8 * a) != 0) = false by simpa using h2]
      simp only [cond_false, List.mem_cons]
      have key : t = s + 8 * a → ((0 ≤ t ∧ t < 64) ∧ atM p t = 0 ∧ (t = s + 8 * a ∨ (t = s + 2 * (8 * a) ∧ rankS s = secondT p.2.1 ∧ atM p (s + 8 * a) = 0))) := by
        rintro rfl; exact ⟨h1, h2, .inl rfl⟩
      by_cases h3 : 0 ≤ s + 8 * (2 * a) ∧ s + 8 * (2 * a) < 64
      · rw [if_pos h3]
        simp only
        have e2 : s + 8 * (2 * a) = s + 2 * (8 * a) := by omega
        rw [show p.1.getD (s + 8 * (2 * a)).toNat 0 = atM p (s + 8 * (2 * a)) from rfl, e2] at *
        by_cases h4 : atM p (s + 2 * (8 * a)) = 0
        · rw [show (atM p (s + 2 * (8 * a)) != 0) = false by simpa using h4]
          by_cases h5 : rankS s = secondT p.2.1
          · rw [show (rankS s != secondT p.2.1) = false by simpa using h5]
            simp only [cond_false, List.mem_cons, List.not_mem_nil, or_false]
            constructor
            · rintro (h | rfl)
              · exact key h
              · exact ⟨by omega, h4, .inr ⟨rfl, h5, h2⟩⟩
            · rintro ⟨_, _, h | ⟨h, _⟩⟩
              · exact .inl h
              · exact .inr h
          · rw [show (rankS s != secondT p.2.1) = true by simpa using h5]
            simp only [cond_true, cond_false, List.not_mem_nil, or_false]
            constructor
            · exact key
            · rintro ⟨_, _, h | ⟨h, h6, _⟩⟩
              · exact h
              · exact (h5 h6).elim
        · rw [show (atM p (s + 2 * (8 * a)) != 0) = true by simpa using h4]
          simp only [cond_true, List.not_mem_nil, or_false]
          constructor
          · exact key
          · rintro ⟨_, h6, h | ⟨rfl, _, _⟩⟩
            · exact h
            · exact (h4 h6).elim
      · rw [if_neg h3]
        simp only [List.not_mem_nil, or_false]
        constructor
        · exact key
        · rintro ⟨_, _, h | ⟨h, _⟩⟩
          · exact h
          · omega
    · rw [show (atM p (s + 8 * a) != 0) = true by simpa using h2]
      simp only [cond_true, List.not_mem_nil, false_iff]
      rintro ⟨_, h6, rfl | ⟨_, _, h7⟩⟩
      · exact h2 h6
      · exact h2 h7
  · rw [if_neg h1]
    simp only [List.not_mem_nil, false_iff]
    rintro ⟨h5, _, rfl | ⟨rfl, _, _⟩⟩
    · exact h1 h5
    · omega

theorem stepL_nodup {p : PosD} (ht : p.2.1 = 0 ∨ p.2.1 = 1) {s : Int} (hs : 0 ≤ s ∧ s < 64) : (stepL p s).Nodup := by
  obtain ⟨hu, ha⟩ := upT_eq ht
  unfold stepL
  rw [stepS_up hs (by omega), stepS_up hs (r := 2 * aheadT p.2.1) (by omega)]
  generalize aheadT p.2.1 = a at ha hu
  by_cases h1 : 0 ≤ s + 8 * a ∧ s + 8 * a < 64
  · rw [if_pos h1]
    simp only
    cases p.1.getD (s + 8 * a).toNat 0 != 0 with
    | true => simp
    | false =>
      by_cases h3 : 0 ≤ s + 8 * (2 * a) ∧ s + 8 * (2 * a) < 64
      · rw [if_pos h3]
        simp only
        cases p.1.getD (s + 8 * (2 * a)).toNat 0 != 0 <;> cases rankS s != secondT p.2.1 <;> simp <;> omega
      · rw [if_neg h3]
        simp
  · rw [if_neg h1]
    simp

theorem toL_nodup {p : PosD} (ht : p.2.1 = 0 ∨ p.2.1 = 1) {s : Int} (hs : 0 ≤ s ∧ s < 64) : (toL p s).Nodup := by
  obtain ⟨hu, ha⟩ := upT_eq ht
  unfold toL
  cases hk : kindM (p.1.getD s.toNat 0) == 1 with
  | true =>
    simp only [cond_true]
    unfold pawnL
    rw [List.nodup_append]
    refine ⟨stepL_nodup ht hs, (strikes_nodup p.1 s).filter _, ?_⟩
    intro a h1 b h2
    rintro rfl
    obtain ⟨g1, g2, g3⟩ := (stepL_iff ht hs).1 h1
    obtain ⟨f, hf, hst⟩ := pawn_strike (by simpa using hk) (List.mem_filter.1 h2).1
    obtain ⟨_, q2, q3, _⟩ := stepS_spec hst
    generalize upT p.2.1 = u at *
    generalize (bif sideM (p.1.getD s.toNat 0) == 1 then (-1 : Int) else 1) = r at *
    omega
  | false =>
    simp only [cond_false]
    cases hk6 : kindM (p.1.getD s.toNat 0) == 6 with
    | false => exact jumps_nodup p s
    | true =>
      simp only [cond_true]
      unfold kingL
      rw [List.nodup_append]
      refine ⟨jumps_nodup p s, List.Pairwise.filter (kingT p s) (show [s + 2, s - 2].Pairwise (· ≠ ·) by simp; omega), ?_⟩
      intro a h1 b h2
      rintro rfl
      have h3 := (List.mem_filter.1 h2).1
      obtain ⟨_, _, y, hy, hw⟩ := strikes_mem (List.mem_filter.1 h1).1
      have e6 : kindM (p.1.getD s.toNat 0) = 6 := by simpa using hk6
      have hm : mostM (p.1.getD s.toNat 0) = 1 := by unfold mostM; rw [e6]; rfl
      have hst : stepsM (p.1.getD s.toNat 0) = straightS ++ slantS := by unfold stepsM; rw [e6]; rfl
      rw [hm] at hw
      rw [hst] at hy
      obtain ⟨_, q2, q3, _⟩ := stepS_spec (walk_one (scanS_mem _ _ _ hw))
      simp at h3
      simp [straightS, slantS] at hy
      rcases hy with rfl | rfl | rfl | rfl | rfl | rfl | rfl | rfl <;> simp at q2 q3 <;> omega

def ltM (a b : MoveD) : Prop := a.1 < b.1 ∨ (a.1 = b.1 ∧ (a.2.1 < b.2.1 ∨ (a.2.1 = b.2.1 ∧ a.2.2.1 > b.2.2.1)))

theorem turnedL_order (p : PosD) (m : MoveD) : (turnedL p m).Pairwise ltM := by
  unfold turnedL
  cases kindM (atM p m.1) != 1 <;> cases rankS m.2.1 != 0 && rankS m.2.1 != 7 <;> simp [ltM]

theorem sort_lt {l : List Int} (h : l.Nodup) : (sortL l).Pairwise (· < ·) := by
  have h1 := sort_sorted l
  have h2 : (sortL l).Nodup := (sort_perm l).nodup_iff.2 h
  exact (h1.and h2).imp fun h => by omega

theorem movesL_order (p : PosD) (s : Int) {l : List Int} (h : l.Pairwise (· < ·)) : (movesL p s l).Pairwise ltM := by
  unfold movesL
  rw [List.pairwise_flatMap]
  refine ⟨fun t _ => turnedL_order p _, h.imp ?_⟩
  intro a b hab x hx y hy
  obtain ⟨x1, x2⟩ := turnedL_from hx
  obtain ⟨y1, y2⟩ := turnedL_from hy
  unfold ltM
  rw [x1, x2, y1, y2]
  exact .inr ⟨rfl, .inl hab⟩

theorem fromL_order {p : PosD} (ht : p.2.1 = 0 ∨ p.2.1 = 1) (s : Int) : (fromL p s).Pairwise ltM := by
  unfold fromL
  cases hq : rightS s && (!(p.1.getD s.toNat 0 == 0) && sideM (p.1.getD s.toNat 0) == p.2.1) with
  | false => exact List.Pairwise.nil
  | true =>
    simp only [Bool.and_eq_true] at hq
    exact movesL_order p s (sort_lt (toL_nodup ht (rightS_iff.1 hq.1)))

theorem range_lt (i d : Nat) : (List.range' i d).Pairwise (· < ·) := List.pairwise_lt_range'

theorem allL_order {p : PosD} (ht : p.2.1 = 0 ∨ p.2.1 = 1) : (allL p).Pairwise ltM := by
  unfold allL
  rw [List.pairwise_flatMap]
  refine ⟨fun s _ => fromL_order ht _, (range_lt 0 64).imp ?_⟩
  intro a b hab x hx y hy
  left
  rw [(fromL_formed ht hx).2, (fromL_formed ht hy).2]
  omega

theorem ltM_ne {a b : MoveD} (h : ltM a b) : a ≠ b := by
  rintro rfl
  unfold ltM at h
  omega
end Go.Proofs.YtaldkopkfdgngaaGreatDoor

