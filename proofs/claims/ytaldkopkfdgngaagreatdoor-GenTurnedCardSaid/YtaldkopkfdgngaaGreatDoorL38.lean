/- Plain laws: a position that is turned has the turned moves. -/
import Derived.Test.YtaldkopkfdgngaaGreatDoorL37
set_option linter.all false
set_option maxRecDepth 100000
namespace Go.Proofs.YtaldkopkfdgngaaGreatDoor
open Go Am

theorem reach_fl (b : List Int) {t : Int} (ht : 0 ≤ t ∧ t < 64) : ∀ l : List Int, (∀ x ∈ l, 0 ≤ x ∧ x < 64) → rayReach (tB b) (fl t) (l.map fl) = rayReach b t l
  | [], _ => rfl
  | x :: l, h => by
    have hx := h x (by simp)
    simp only [List.map_cons, rayReach]
    rw [reach_fl b ht l (fun y hy => h y (List.mem_cons_of_mem _ hy)), tB_fl b hx, eqz_fl]
    have : (fl x == fl t) = (x == t) := by
      rw [Bool.eq_iff_iff]
      simp only [beq_iff_eq]
      exact ⟨fun h => fl_inj hx ht h, fun h => by rw [h]⟩
    rw [this]

def fanTurnB : Bool := men12.all fun m => mostM (0 - m) == mostM m && (stepsM m).all fun y => (stepsM (0 - m)).any fun z => z.1 == y.1 && z.2.1 == 0 - y.2.1
theorem fanTurn_all : fanTurnB = true := by kernel_rfl
theorem fanTurn_of {m : Int} (hm : rightM m = true) : mostM (0 - m) = mostM m ∧ ∀ y ∈ stepsM m, ∃ z ∈ stepsM (0 - m), z.1 = y.1 ∧ z.2.1 = 0 - y.2.1 := by
  have h := fanTurn_all
  unfold fanTurnB at h
  rw [List.all_eq_true] at h
  have h1 := h m (by rcases men_cases hm with rfl | rfl | rfl | rfl | rfl | rfl | rfl | rfl | rfl | rfl | rfl | rfl <;> decide)
  rw [Bool.and_eq_true, List.all_eq_true] at h1
  refine ⟨by simpa using h1.1, fun y hy => ?_⟩
  have h2 := h1.2 y hy
  rw [List.any_eq_true] at h2
  obtain ⟨z, hz, h3⟩ := h2
  simp only [Bool.and_eq_true, beq_iff_eq] at h3
  exact ⟨z, hz, h3⟩

theorem hitsR_fl {b : List Int} {s t : Int} (hs : 0 ≤ s ∧ s < 64) (ht : 0 ≤ t ∧ t < 64) (h : hitsR b s t = true) : hitsR (tB b) (fl s) (fl t) = true := by
  unfold hitsR at h ⊢
  rw [tB_fl b hs]
  unfold ofM at h ⊢
  rw [neg_right_eq]
  cases hm : rightM (b.getD s.toNat 0) with
  | false => rw [hm] at h; cases h
  | true =>
    rw [hm] at h
    simp only [cond_true, ofS] at h ⊢
    rw [List.any_eq_true] at h ⊢
    obtain ⟨l, hl, hr⟩ := h
    obtain ⟨hl1, hl2⟩ := List.mem_filter.1 hl
    obtain ⟨y, hy, rfl⟩ := List.mem_map.1 hl1
    obtain ⟨e1, e2⟩ := fanTurn_of hm
    obtain ⟨z, hz, z1, z2⟩ := e2 y hy
    have hw : walkS (mostM (0 - b.getD s.toNat 0)) (fl s) z.1 z.2.1 = (walkS (mostM (b.getD s.toNat 0)) s y.1 y.2.1).map fl := by
      rw [e1, z1, z2, walkS_fl _ hs]
    refine ⟨_, List.mem_filter.2 ⟨List.mem_map.2 ⟨z, hz, rfl⟩, ?_⟩, ?_⟩
    · rw [hw]
      cases hq : walkS (mostM (b.getD s.toNat 0)) s y.1 y.2.1 with
      | nil => rw [hq] at hl2; cases hl2
      | cons => rfl
    · rw [hw, reach_fl b ht _ (walkS_right _ _ _ _)]
      exact hr

section
variable {p : PosD} {m : MoveD}

theorem step2_fl (h : Sq p m) (hs : stepR2 p m = true) : stepR2 (tP p) (tM m) = true := by
  have b1 := rightS_iff.1 h.fr
  have b2 := rightS_iff.1 h.to
  have hu : upT (1 - p.2.1) = 0 - upT p.2.1 ∧ (upT p.2.1 = 8 ∨ upT p.2.1 = -8) ∧ secondT (1 - p.2.1) = 7 - secondT p.2.1 := by
    rcases h.turn with ht | ht <;> rw [ht] <;> decide
  obtain ⟨u1, u2, u3⟩ := hu
  have hrk := fun hq => rank_second b1 h.turn hq
  unfold stepR2 at hs ⊢
  rw [show (tM m).2.1 = fl m.2.1 from rfl, show (tM m).1 = fl m.1 from rfl, show (tP p).2.1 = 1 - p.2.1 from rfl, at_fl p b2, eqz_fl, u1, u3, rankS_fl b1]
  simp only [Bool.and_eq_true, Bool.or_eq_true, beq_iff_eq] at hs hrk ⊢
  generalize upT p.2.1 = u at *
  obtain ⟨h1, h2⟩ := hs
  refine ⟨h1, ?_⟩
  rcases h2 with h2 | ⟨h2, h3, h4⟩
  · left
    rw [h2] at b2 ⊢
    unfold fl
    rcases u2 with rfl | rfl <;> omega
  · right
    have b3 := hrk h3
    have e : fl m.1 + (0 - u) = fl (m.1 + u) := by
      unfold fl
      rcases u2 with rfl | rfl <;> omega
    refine ⟨?_, by omega, ?_⟩
    · rw [h2] at b2 ⊢
      unfold fl
      rcases u2 with rfl | rfl <;> omega
    · rw [e, at_fl p b3]; omega

theorem goes_fl (hb : Bd p.1) (hw : wrongP p = 0) (hg : goesP p m = true) : goesP (tP p) (tM m) = true := by
  unfold goesP at hg ⊢
  rw [Bool.and_eq_true] at hg ⊢
  obtain ⟨hf, hg⟩ := hg
  have h := formed_spec hb hw hf
  have ht := h.turn
  have b1 := rightS_iff.1 h.fr
  have b2 := rightS_iff.1 h.to
  have hw' := wrong_fl hb hw
  have hmb : Mb p.1 := mb_of hb.1 (wrongB_spec (wrong_spec hw).1).1
  have hb' : Bd (tP p).1 := hmb.tB.bd
  have hf' := formed_fl ht hf
  have h' := formed_spec hb' hw' hf'
  refine ⟨hf', ?_⟩
  rw [pawn_fl b1]
  cases hk : pawnP p m with
  | true =>
    rw [hk] at hg
    simp only [cond_true] at hg ⊢
    unfold pawnR at hg ⊢
    rw [Bool.or_eq_true] at hg ⊢
    rcases hg with hg | hg
    · exact .inl (step2_fl h.toSq hg)
    · right
      rw [Bool.and_eq_true] at hg ⊢
      obtain ⟨g1, g2⟩ := hg
      rw [first_hits hk] at g1
      rw [first_hits (by rw [pawn_fl b1]; exact hk)]
      refine ⟨hitsR_fl b1 b2 g1, ?_⟩
      have hb2 := takes_bounds h.toSq g2
      rw [takes_fl h.toSq (wrong_spec hw).2.2.1, tE_sq hb2.1]
      have := fl_in hb2
      simp; omega
  | false =>
    rw [hk] at hg
    simp only [cond_false] at hg ⊢
    rw [Bool.or_eq_true] at hg ⊢
    rcases hg with hg | hg
    · exact .inl (hitsR_fl b1 b2 hg)
    · right
      rw [right_pos hw' h', ← castle_same h' (wrong_spec hw').2.1, right_fl h.toSq (wrong_spec hw).2.1, castle_same h (wrong_spec hw).2.1, ← right_pos hw h]
      exact hg
end

theorem tB_tB {b : List Int} (hl : b.length = 64) : tB (tB b) = b := by
  refine ext64 (tB_len _) hl fun s h1 h2 => ?_
  rw [tB_at _ ⟨h1, h2⟩, tB_at _ (fl_in ⟨h1, h2⟩), fl_fl ⟨h1, h2⟩]
  omega
theorem tP_tP {p : PosD} (hb : Bd p.1) (hw : wrongP p = 0) : tP (tP p) = p := by
  obtain ⟨_, hc, he, _⟩ := wrong_spec hw
  obtain ⟨b, t, c, e, ⟨⟩⟩ := p
  unfold tP
  simp only at *
  rw [tB_tB hb.1, show 1 - (1 - t) = t by omega, show tC (tC c) = c by unfold tC; omega]
  have : tE (tE e) = e := by
    by_cases h0 : e < 0
    · rw [tE_no h0, tE_no (by omega)]; omega
    · have h1 := fl_in (s := e) (by omega)
      rw [tE_sq (e := e) (by omega), tE_sq (e := fl e) h1.1, fl_fl (s := e) (by omega)]
  rw [this]
theorem tM_tM {m : MoveD} (h1 : 0 ≤ m.1 ∧ m.1 < 64) (h2 : 0 ≤ m.2.1 ∧ m.2.1 < 64) : tM (tM m) = m := by
  obtain ⟨s, t, k, ⟨⟩⟩ := m
  unfold tM
  simp only at *
  rw [fl_fl h1, fl_fl h2]

theorem goes_sq {p : PosD} {m : MoveD} (h : goesP p m = true) : (0 ≤ m.1 ∧ m.1 < 64) ∧ (0 ≤ m.2.1 ∧ m.2.1 < 64) := by
  unfold goesP at h
  rw [Bool.and_eq_true] at h
  have hf := h.1
  unfold formedP at hf
  simp only [Bool.and_eq_true] at hf
  exact ⟨rightS_iff.1 hf.1, rightS_iff.1 hf.2.1⟩

theorem all_turned {p : PosD} (hb : Bd p.1) (hw : wrongP p = 0) : ((allL p).map tM).Perm (allL (tP p)) := by
  have hmb : Mb p.1 := mb_of hb.1 (wrongB_spec (wrong_spec hw).1).1
  have hb' : Bd (tP p).1 := hmb.tB.bd
  have hw' := wrong_fl hb hw
  have n1 : (allL p).Nodup := (allL_order (wrong_turn hw)).imp ltM_ne
  have n2 : (allL (tP p)).Nodup := (allL_order (wrong_turn hw')).imp ltM_ne
  have n3 : ((allL p).map tM).Nodup := by
    refine List.pairwise_map.2 (List.Pairwise.imp_of_mem (fun {a b} ha hbm hne he => ?_) n1)
    obtain ⟨a1, a2⟩ := goes_sq ((allL_iff hb hw a).1 ha)
    obtain ⟨b1, b2⟩ := goes_sq ((allL_iff hb hw b).1 hbm)
    exact hne (by rw [← tM_tM a1 a2, he, tM_tM b1 b2])
  refine (List.perm_ext_iff_of_nodup n3 n2).2 fun m => ?_
  rw [List.mem_map, allL_iff hb' hw']
  constructor
  · rintro ⟨x, hx, rfl⟩
    exact goes_fl hb hw ((allL_iff hb hw x).1 hx)
  · intro hg
    obtain ⟨m1, m2⟩ := goes_sq hg
    have := goes_fl hb' hw' hg
    rw [tP_tP hb hw] at this
    exact ⟨tM m, (allL_iff hb hw _).2 this, tM_tM m1 m2⟩

end Go.Proofs.YtaldkopkfdgngaaGreatDoor

