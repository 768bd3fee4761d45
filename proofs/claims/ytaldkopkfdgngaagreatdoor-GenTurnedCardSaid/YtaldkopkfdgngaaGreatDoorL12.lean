/- Plain laws: the document's answer: what is wrong with a position; moves. -/
import Derived.Test.YtaldkopkfdgngaaGreatDoorL11
set_option linter.all false
set_option maxRecDepth 100000
namespace Go.Proofs.YtaldkopkfdgngaaGreatDoor
open Go Am

def rights4 : List Int := [1, 2, 4, 8]
theorem r4_cases {r : Int} (h : r ∈ rights4) : r = 1 ∨ r = 2 ∨ r = 4 ∨ r = 8 := by simpa [rights4] using h

theorem ref08_Backed_eq (b : List Int) {r : Int} (h : r ∈ rights4) {S : Type} (k : Bool → Option S) : F_ref08_Backed b r k = k (backedP b r) := by
  unfold F_ref08_Backed R_ref08_Backed
  rcases r4_cases h with rfl | rfl | rfl | rfl
  · show (bif b.getD 4 0 == 6 then k (b.getD 7 0 == 4) else k false) = k (b.getD 4 0 == 6 && b.getD 7 0 == 4)
    cases b.getD 4 0 == 6 <;> rfl
  · show (bif b.getD 4 0 == 6 then k (b.getD 0 0 == 4) else k false) = k (b.getD 4 0 == 6 && b.getD 0 0 == 4)
    cases b.getD 4 0 == 6 <;> rfl
  · show (bif b.getD 60 0 == -6 then k (b.getD 63 0 == -4) else k false) = k (b.getD 60 0 == -6 && b.getD 63 0 == -4)
    cases b.getD 60 0 == -6 <;> rfl
  · show (bif b.getD 60 0 == -6 then k (b.getD 56 0 == -4) else k false) = k (b.getD 60 0 == -6 && b.getD 56 0 == -4)
    cases b.getD 60 0 == -6 <;> rfl

def hasB : Bool := (List.range 16).all fun c => rights4.all fun r => ((Int.tmod (IntKind.wrap .i64 (Int.tdiv (c : Nat) r)) 2 == 1) == (bAnd .i64 (c : Nat) r != 0)) && (bAnd .i64 r (c : Nat) == (bif bAnd .i64 (c : Nat) r != 0 then r else 0))
theorem has_all : hasB = true := by kernel_rfl
theorem has_of {c r : Int} (hc : 0 ≤ c ∧ c ≤ 15) (hr : r ∈ rights4) : (Int.tmod (IntKind.wrap .i64 (Int.tdiv c r)) 2 == 1) = (bAnd .i64 c r != 0) ∧ bAnd .i64 r c = (bif bAnd .i64 c r != 0 then r else 0) := by
  have h := has_all
  unfold hasB at h
  rw [List.all_eq_true] at h
  have h1 := h c.toNat (by simp; omega)
  rw [List.all_eq_true] at h1
  have h2 := h1 r hr
  rw [show ((c.toNat : Nat) : Int) = c by omega] at h2
  simp only [Bool.and_eq_true, beq_iff_eq] at h2
  exact h2

theorem ref08_Has_eq {c r : Int} (hc : 0 ≤ c ∧ c ≤ 15) (hr : r ∈ rights4) {S : Type} (k : Bool → Option S) : F_ref08_Has c r k = k (bAnd .i64 c r != 0) := by
  unfold F_ref08_Has R_ref08_Has
  rw [(has_of hc hr).1]
  rcases r4_cases hr with rfl | rfl | rfl | rfl <;> rfl

theorem N_ref08_Wrong_0_step {p : PosD} (hc : 0 ≤ p.2.2.1 ∧ p.2.2.1 ≤ 15) (n : Nat) {r : Int} (hr : r ∈ rights4) {S : Type} (kx : PosD → Option S) (kr : Int → Option S) :
    N_ref08_Wrong_0 (n + 1) r p kx kr = bif !(bAnd .i64 p.2.2.1 r != 0) || backedP p.1 r then N_ref08_Wrong_0 n (2 * r) p kx kr else kr 10 := by
  rw [N_ref08_Wrong_0_succ]
  unfold R_ref08_Wrong_0
  simp only [ref08_Has_eq hc hr, ref08_Backed_eq p.1 hr]
  have h1 : decide (r ≤ 8) = true := by rcases r4_cases hr with rfl | rfl | rfl | rfl <;> rfl
  have h2 : IntKind.wrap .i64 (2 * r) = 2 * r := by rcases r4_cases hr with rfl | rfl | rfl | rfl <;> rfl
  rw [h1, h2]
  cases bAnd .i64 p.2.2.1 r != 0 <;> cases backedP p.1 r <;> rfl

theorem L_ref08_Wrong_0_eq {p : PosD} (hc : 0 ≤ p.2.2.1 ∧ p.2.2.1 ≤ 15) {S : Type} (kx : PosD → Option S) (kr : Int → Option S) : L_ref08_Wrong_0 1 p kx kr = bif castlesP p then kx p else kr 10 := by
  rw [L_ref08_Wrong_0_N, N_ref08_Wrong_0_step hc 99 (r := 1) (by decide), N_ref08_Wrong_0_step hc 98 (r := 2 * 1) (by decide), N_ref08_Wrong_0_step hc 97 (r := 2 * (2 * 1)) (by decide), N_ref08_Wrong_0_step hc 96 (r := 2 * (2 * (2 * 1))) (by decide)]
  have hx : N_ref08_Wrong_0 96 (2 * (2 * (2 * (2 * 1)))) p kx kr = kx p := by rw [N_ref08_Wrong_0_succ]; rfl
  rw [hx]
  unfold castlesP
  rw [show (2 * 1 : Int) = 2 from rfl, show (2 * 2 : Int) = 4 from rfl, show (2 * 4 : Int) = 8 from rfl]
  simp only [List.all_cons, List.all_nil, Bool.and_true]
  cases (!(bAnd .i64 p.2.2.1 1 != 0) || backedP p.1 1) <;> cases (!(bAnd .i64 p.2.2.1 2 != 0) || backedP p.1 2) <;> cases (!(bAnd .i64 p.2.2.1 4 != 0) || backedP p.1 4) <;> cases (!(bAnd .i64 p.2.2.1 8 != 0) || backedP p.1 8) <;> rfl

def passedR (p : PosD) : Int := match passedP p with | some s => s | none => -1

theorem step_up {e : Int} (h : rankS e = 5 ∨ rankS e = 2) : 0 ≤ e ∧ e < 64 ∧ stepS e 0 1 = some (e + 8) ∧ stepS e 0 (-1) = some (e - 8) ∧ 8 ≤ e ∧ e < 56 := by
  have hr : rightS e = true := by
    cases hq : rightS e with
    | true => rfl
    | false => unfold rankS at h; rw [hq] at h; simp at h
  have b := rightS_iff.1 hr
  rw [rankS_of b] at h
  refine ⟨b.1, b.2, ?_, ?_, by omega, by omega⟩
  · unfold stepS
    rw [hr, show onS (e % 8 + 0) = true from onS_iff.2 (by omega), show onS (e / 8 + 1) = true from onS_iff.2 (by omega)]
    show some (8 * (e / 8 + 1) + (e % 8 + 0)) = _
    congr 1; omega
  · unfold stepS
    rw [hr, show onS (e % 8 + 0) = true from onS_iff.2 (by omega), show onS (e / 8 + -1) = true from onS_iff.2 (by omega)]
    show some (8 * (e / 8 + -1) + (e % 8 + 0)) = _
    congr 1; omega

theorem rank_out {e : Int} (h : ¬ (0 ≤ e ∧ e < 64)) : rankS e = -1 := by
  unfold rankS
  cases hq : rightS e with
  | true => exact (h (rightS_iff.1 hq)).elim
  | false => rfl

theorem bne_not (x y : Int) : (x != y) = !(x == y) := rfl

theorem ref08_Passed_eq {p : PosD} (ht : p.2.1 = 0 ∨ p.2.1 = 1) {S : Type} (k : Int → Option S) : F_ref08_Passed p k = k (passedR p) := by
  unfold F_ref08_Passed R_ref08_Passed passedR passedP
  simp only [ref01_Rank_eq]
  by_cases he : 0 ≤ p.2.2.2.1 ∧ p.2.2.2.1 < 64
  · rw [show decide (p.2.2.2.1 < 0) = false by simp; omega, show decide (p.2.2.2.1 > 63) = false by simp; omega]
    simp only [cond_false]
    rcases ht with ht | ht <;> rw [ht]
    · rw [show ((0 : Int) == 0) = true from rfl, show ((0 : Int) == 1) = false from rfl, show decide (otherS 0 < 0) = false from rfl, show otherS 0 = 1 from rfl, show makeM 1 1 = -1 from rfl]
      simp only [cond_true, cond_false, bne_not]
      cases h5 : rankS p.2.2.2.1 == 5 with
      | false => rfl
      | true =>
        obtain ⟨_, _, u1, u2, u3, u4⟩ := step_up (.inl (by simpa using h5))
        rw [u1, u2, w64 (x := p.2.2.2.1 + 8) (by omega), w64 (x := p.2.2.2.1 - 8) (by omega), inB_true (j := p.2.2.2.1) (n := 64) (by omega), inB_true (j := p.2.2.2.1 + 8) (n := 64) (by omega), inB_true (j := p.2.2.2.1 - 8) (n := 64) (by omega)]
        simp only [cond_true, cond_false, Bool.not_true]
        cases p.1.getD p.2.2.2.1.toNat 0 == 0 <;> cases p.1.getD (p.2.2.2.1 + 8).toNat 0 == 0 <;> cases p.1.getD (p.2.2.2.1 - 8).toNat 0 == -1 <;> rfl
    · rw [show ((1 : Int) == 0) = false from rfl, show ((1 : Int) == 1) = true from rfl, show decide (otherS 1 < 0) = false from rfl, show otherS 1 = 0 from rfl, show makeM 1 0 = 1 from rfl]
      simp only [cond_true, cond_false, bne_not]
      cases h5 : rankS p.2.2.2.1 == 2 with
      | false => rfl
      | true =>
        obtain ⟨_, _, u1, u2, u3, u4⟩ := step_up (.inr (by simpa using h5))
        rw [u1, u2, w64 (x := p.2.2.2.1 + 8) (by omega), w64 (x := p.2.2.2.1 - 8) (by omega), inB_true (j := p.2.2.2.1) (n := 64) (by omega), inB_true (j := p.2.2.2.1 + 8) (n := 64) (by omega), inB_true (j := p.2.2.2.1 - 8) (n := 64) (by omega)]
        simp only [cond_true, cond_false, Bool.not_true]
        cases p.1.getD p.2.2.2.1.toNat 0 == 0 <;> cases p.1.getD (p.2.2.2.1 - 8).toNat 0 == 0 <;> cases p.1.getD (p.2.2.2.1 + 8).toNat 0 == 1 <;> rfl
  · rw [rank_out he]
    have hd : decide (p.2.2.2.1 < 0) = true ∨ decide (p.2.2.2.1 > 63) = true := by simp; omega
    have hnone : ∀ o : Option Int, (bif decide (otherS p.2.1 < 0) then none else bif ((-1 : Int) != bif p.2.1 == 1 then 2 else 5) then none else o) = none := by
      intro o
      rcases ht with ht | ht <;> rw [ht] <;> rfl
    rw [hnone]
    cases h1 : decide (p.2.2.2.1 < 0) with
    | true => rfl
    | false =>
      have h2 := hd.resolve_left (by rw [h1]; simp)
      rw [h2]; rfl

theorem wrongB_spec {b : List Int} (h : (wrongB b != 0) = false) : rightB b = true ∧ manyB b 6 0 = 1 ∧ manyB b 6 1 = 1 := by
  unfold wrongB at h
  cases h1 : rightB b with
  | false => rw [h1] at h; cases h
  | true =>
    rw [h1] at h
    cases h2 : Ty.beq (.arr 64 (.int .i8)) b (List.replicate 64 (0 : Int)) with
    | true => rw [h2] at h; cases h
    | false =>
      rw [h2] at h
      cases h3 : manyB b 6 0 != 1 with
      | true => rw [h3] at h; cases h
      | false =>
        rw [h3] at h
        cases h4 : manyB b 6 1 != 1 with
        | true => rw [h4] at h; cases h
        | false => exact ⟨rfl, by simpa using h3, by simpa using h4⟩

theorem where_some {b : List Int} (hb : Bd b) {m : Int} (h : b.countP (· == m) = 1) : ∃ s : Nat, s < 64 ∧ whereB b m = some s ∧ b.getD s 0 = m := by
  rcases whereL_head b m with ⟨h1, _⟩ | ⟨s, l, h1, h2⟩
  · have := whereL_len hb m
    rw [h1, h] at this; cases this
  · refine ⟨s, ?_, h2, ?_⟩
    · have := List.mem_of_find?_eq_some h2
      simp [List.mem_range'_1] at this; exact this
    · have := List.find?_some h2
      simpa using this

theorem kings_spec {b : List Int} (hb : Bd b) (h : (wrongB b != 0) = false) : 0 ≤ kingB b 0 ∧ kingB b 0 < 64 ∧ 0 ≤ kingB b 1 ∧ kingB b 1 < 64 ∧ kingB b 0 ≠ kingB b 1 ∧ b.getD (kingB b 0).toNat 0 = 6 ∧ b.getD (kingB b 1).toNat 0 = -6 := by
  obtain ⟨_, h1, h2⟩ := wrongB_spec h
  unfold manyB at h1 h2
  rw [kings0] at h1
  rw [kings1] at h2
  obtain ⟨s, s1, s2, s3⟩ := where_some hb (m := 6) (by omega)
  obtain ⟨t, t1, t2, t3⟩ := where_some hb (m := -6) (by omega)
  have e0 : kingB b 0 = (s : Int) := by
    unfold kingB
    rw [show makeM 6 0 = 6 from rfl, s2]; rfl
  have e1 : kingB b 1 = (t : Int) := by
    unfold kingB
    rw [show makeM 6 1 = -6 from rfl, t2]; rfl
  rw [e0, e1]
  refine ⟨by omega, by omega, by omega, by omega, ?_, by rw [Int.toNat_natCast]; exact s3, by rw [Int.toNat_natCast]; exact t3⟩
  intro he
  have : s = t := by omega
  rw [this, t3] at s3
  cases s3

theorem far_pos {a b : Int} (ha : 0 ≤ a ∧ a < 64) (hb : 0 ≤ b ∧ b < 64) (h : a ≠ b) : 1 ≤ farS a b := by
  unfold farS gapS
  rw [rightS_iff.2 ha, rightS_iff.2 hb, fileS_of ha, fileS_of hb, rankS_of ha, rankS_of hb]
  simp only [Bool.and_self, cond_true]
  split <;> split <;> split <;> omega

theorem ref08_Wrong_eq {p : PosD} (hb : Bd p.1) {S : Type} (k : Int → Option S) : F_ref08_Wrong p k = k (wrongP p) := by
  unfold F_ref08_Wrong R_ref08_Wrong wrongP
  simp only [ref03_Wrong_eq hb]
  cases hw : wrongB p.1 != 0 with
  | true => rfl
  | false =>
    simp only [cond_false]
    by_cases ht : p.2.1 = 0 ∨ p.2.1 = 1
    · have hto : otherS p.2.1 = 1 - p.2.1 := by rcases ht with h | h <;> rw [h] <;> rfl
      rw [show decide (p.2.1 < 0) = false by simp; omega, show decide (p.2.1 > 1) = false by simp; omega, hto, show decide (1 - p.2.1 < 0) = false by simp; omega]
      simp only [cond_false]
      cases h1 : decide (p.2.2.1 < 0) with
      | true => rfl
      | false =>
        cases h2 : decide (p.2.2.1 > 15) with
        | true => rfl
        | false =>
          have hc : 0 ≤ p.2.2.1 ∧ p.2.2.1 ≤ 15 := by simp at h1 h2; omega
          cases h3 : decide (p.2.2.2.1 < -1) with
          | true => rfl
          | false =>
            rw [show decide (p.2.2.2.1 ≥ 64) = decide (p.2.2.2.1 > 63) by simp; omega]
            cases h4 : decide (p.2.2.2.1 > 63) with
            | true => rfl
            | false =>
              simp only [cond_false]
              obtain ⟨k0, k1, k2, k3, k4, _, _⟩ := kings_spec hb hw
              have hf := far_pos ⟨k0, k1⟩ ⟨k2, k3⟩ k4
              have hr := (wrongB_spec hw).1
              simp only [ref07_King_eq hb (side := 0) (.inl rfl), ref07_King_eq hb (side := 1) (.inr rfl), ref01_Far_eq]
              rw [w64 (x := 1 - p.2.1) (by omega)]
              simp only [ref07_Check_eq hb hr (side := 1 - p.2.1) (by omega), check_same hr (side := 1 - p.2.1) (by omega), L_ref08_Wrong_0_eq hc, ref08_Passed_eq ht]
              have ef : (farS (kingB p.1 0) (kingB p.1 1) == 1) = decide (farS (kingB p.1 0) (kingB p.1 1) ≤ 1) := by
                rw [Bool.eq_iff_iff]; simp; omega
              rw [ef]
              cases decide (farS (kingB p.1 0) (kingB p.1 1) ≤ 1) with
              | true => rfl
              | false =>
                cases checkB p.1 (1 - p.2.1) with
                | true => rfl
                | false =>
                  cases castlesP p with
                  | false => rfl
                  | true =>
                    cases decide (p.2.2.2.1 ≥ 0) with
                    | false => rfl
                    | true =>
                      simp only [cond_true, cond_false, Bool.not_true]
                      unfold passedR
                      cases hp : passedP p with
                      | none => rfl
                      | some s =>
                        have := passed_bounds hp
                        simp only [show decide (s < 0) = false by simp; omega]
                        rfl
    · have h1 : (decide (p.2.1 < 0) = true) ∨ (decide (p.2.1 < 0) = false ∧ decide (p.2.1 > 1) = true) := by
        by_cases h : p.2.1 < 0
        · left; simpa using h
        · right; simp; omega
      have h2 : decide (otherS p.2.1 < 0) = true := by
        unfold otherS
        rw [show (p.2.1 == 0) = false by simp; omega, show (p.2.1 == 1) = false by simp; omega]; rfl
      rw [h2]
      rcases h1 with h1 | ⟨h1, h3⟩
      · rw [h1]; rfl
      · rw [h1, h3]; rfl

end Go.Proofs.YtaldkopkfdgngaaGreatDoor

