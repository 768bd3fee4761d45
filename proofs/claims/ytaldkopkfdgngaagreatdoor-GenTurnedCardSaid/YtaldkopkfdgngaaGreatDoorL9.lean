/- Plain laws: the document's answer: what a board lacks; rays. -/
import Derived.Test.YtaldkopkfdgngaaGreatDoorL8
set_option linter.all false
set_option maxRecDepth 100000
namespace Go.Proofs.YtaldkopkfdgngaaGreatDoor
open Go Am

def w (x : Int) : Int := IntKind.wrap .i64 x
theorem many0_unroll (n : Nat) (b : List Int) {S : Type} (k : Int → Option S) (kr : Option S) : N_ref03_Many_0 (n + 7) 0 0 0 1 b k kr =
    F_ref03_Where b 1 fun z1 => F_ref03_Where b 2 fun z2 => F_ref03_Where b 3 fun z3 => F_ref03_Where b 4 fun z4 => F_ref03_Where b 5 fun z5 => F_ref03_Where b 6 fun z6 =>
      k (w (w (w (w (w (w (0 + ((z1.length : Nat) : Int)) + ((z2.length : Nat) : Int)) + ((z3.length : Nat) : Int)) + ((z4.length : Nat) : Int)) + ((z5.length : Nat) : Int)) + ((z6.length : Nat) : Int))) := by kernel_rfl
theorem many1_unroll (n : Nat) (b : List Int) {S : Type} (k : Int → Option S) (kr : Option S) : N_ref03_Many_0 (n + 7) 0 1 0 1 b k kr =
    F_ref03_Where b (-1) fun z1 => F_ref03_Where b (-2) fun z2 => F_ref03_Where b (-3) fun z3 => F_ref03_Where b (-4) fun z4 => F_ref03_Where b (-5) fun z5 => F_ref03_Where b (-6) fun z6 =>
      k (w (w (w (w (w (w (0 + ((z1.length : Nat) : Int)) + ((z2.length : Nat) : Int)) + ((z3.length : Nat) : Int)) + ((z4.length : Nat) : Int)) + ((z5.length : Nat) : Int)) + ((z6.length : Nat) : Int))) := by kernel_rfl

def one (p : Int → Bool) (x : Int) : Nat := bif p x then 1 else 0
theorem countP_one (p : Int → Bool) (a : Int) (l : List Int) : (a :: l).countP p = one p a + l.countP p := by
  rw [countP_step]; unfold one; cases p a <;> simp [Nat.add_comm]

theorem right_or (x : Int) : rightM x = true ∨ (∀ c : Int, rightM c = true → (x == c) = false) := by
  cases h : rightM x with
  | true => exact .inl rfl
  | false =>
    right
    intro c hc
    cases hq : x == c with
    | false => rfl
    | true =>
      have : x = c := by simpa using hq
      rw [this, hc] at h; cases h

theorem one0 (x : Int) : one (isM 0 0) x = one (· == 1) x + one (· == 2) x + one (· == 3) x + one (· == 4) x + one (· == 5) x + one (· == 6) x := by
  cases h : rightM x with
  | true => rcases men_cases h with rfl | rfl | rfl | rfl | rfl | rfl | rfl | rfl | rfl | rfl | rfl | rfl <;> rfl
  | false =>
    have h' := (right_or x).resolve_left (by rw [h]; simp)
    simp only [one, isM, h, h' 1 rfl, h' 2 rfl, h' 3 rfl, h' 4 rfl, h' 5 rfl, h' 6 rfl, Bool.false_and, cond_false]
theorem one1 (x : Int) : one (isM 0 1) x = one (· == -1) x + one (· == -2) x + one (· == -3) x + one (· == -4) x + one (· == -5) x + one (· == -6) x := by
  cases h : rightM x with
  | true => rcases men_cases h with rfl | rfl | rfl | rfl | rfl | rfl | rfl | rfl | rfl | rfl | rfl | rfl <;> rfl
  | false =>
    have h' := (right_or x).resolve_left (by rw [h]; simp)
    simp only [one, isM, h, h' (-1) rfl, h' (-2) rfl, h' (-3) rfl, h' (-4) rfl, h' (-5) rfl, h' (-6) rfl, Bool.false_and, cond_false]
theorem king0 (x : Int) : one (isM 6 0) x = one (· == 6) x := by
  cases h : rightM x with
  | true => rcases men_cases h with rfl | rfl | rfl | rfl | rfl | rfl | rfl | rfl | rfl | rfl | rfl | rfl <;> rfl
  | false =>
    have h' := (right_or x).resolve_left (by rw [h]; simp)
    simp only [one, isM, h, h' 6 rfl, Bool.false_and, cond_false]
theorem king1 (x : Int) : one (isM 6 1) x = one (· == -6) x := by
  cases h : rightM x with
  | true => rcases men_cases h with rfl | rfl | rfl | rfl | rfl | rfl | rfl | rfl | rfl | rfl | rfl | rfl <;> rfl
  | false =>
    have h' := (right_or x).resolve_left (by rw [h]; simp)
    simp only [one, isM, h, h' (-6) rfl, Bool.false_and, cond_false]

theorem sum0 : ∀ l : List Int, l.countP (isM 0 0) = l.countP (· == 1) + l.countP (· == 2) + l.countP (· == 3) + l.countP (· == 4) + l.countP (· == 5) + l.countP (· == 6)
  | [] => rfl
  | x :: l => by have := sum0 l; have := one0 x; simp only [countP_one]; omega
theorem sum1 : ∀ l : List Int, l.countP (isM 0 1) = l.countP (· == -1) + l.countP (· == -2) + l.countP (· == -3) + l.countP (· == -4) + l.countP (· == -5) + l.countP (· == -6)
  | [] => rfl
  | x :: l => by have := sum1 l; have := one1 x; simp only [countP_one]; omega
theorem kings0 : ∀ l : List Int, l.countP (isM 6 0) = l.countP (· == 6)
  | [] => rfl
  | x :: l => by have := kings0 l; have := king0 x; simp only [countP_one]; omega
theorem kings1 : ∀ l : List Int, l.countP (isM 6 1) = l.countP (· == -6)
  | [] => rfl
  | x :: l => by have := kings1 l; have := king1 x; simp only [countP_one]; omega

theorem ww (a b c d e f : Nat) (ha : a ≤ 64) (hb : b ≤ 64) (hc : c ≤ 64) (hd : d ≤ 64) (he : e ≤ 64) (hf : f ≤ 64) : w (w (w (w (w (w (0 + (a : Int)) + (b : Int)) + (c : Int)) + (d : Int)) + (e : Int)) + (f : Int)) = ((a + b + c + d + e + f : Nat) : Int) := by
  unfold w
  rw [w64 (x := 0 + (a : Int)) (by omega), w64 (x := 0 + (a : Int) + b) (by omega), w64 (x := 0 + (a : Int) + b + c) (by omega), w64 (x := 0 + (a : Int) + b + c + d) (by omega), w64 (x := 0 + (a : Int) + b + c + d + e) (by omega), w64 (by omega)]
  omega

theorem countP_le64 {b : List Int} (hb : Bd b) (p : Int → Bool) : b.countP p ≤ 64 := by rw [← hb.1]; exact List.countP_le_length

theorem ref03_Many0_eq {b : List Int} (hb : Bd b) {S : Type} (k : Int → Option S) : F_ref03_Many b 0 0 k = k (manyB b 0 0) := by
  unfold F_ref03_Many R_ref03_Many
  rw [L_ref03_Many_0_N, show 100 + b.length = (93 + b.length) + 7 by omega, many0_unroll]
  simp only [ref03_Where_eq hb, whereL_len hb]
  rw [ww _ _ _ _ _ _ (countP_le64 hb _) (countP_le64 hb _) (countP_le64 hb _) (countP_le64 hb _) (countP_le64 hb _) (countP_le64 hb _), ← sum0]
  rfl
theorem ref03_Many1_eq {b : List Int} (hb : Bd b) {S : Type} (k : Int → Option S) : F_ref03_Many b 0 1 k = k (manyB b 0 1) := by
  unfold F_ref03_Many R_ref03_Many
  rw [L_ref03_Many_0_N, show 100 + b.length = (93 + b.length) + 7 by omega, many1_unroll]
  simp only [ref03_Where_eq hb, whereL_len hb]
  rw [ww _ _ _ _ _ _ (countP_le64 hb _) (countP_le64 hb _) (countP_le64 hb _) (countP_le64 hb _) (countP_le64 hb _) (countP_le64 hb _), ← sum1]
  rfl

def rimP (b : List Int) (f : Nat) : Bool := b.getD f 0 == 1 || (b.getD f 0 == -1 || (b.getD (56 + f) 0 == 1 || b.getD (56 + f) 0 == -1))

theorem N_ref03_Wrong_0_eq (b : List Int) : ∀ (d i n : Nat), i + d = 8 → d < n → ∀ {S : Type} (kx : List Int → Option S) (kr : Int → Option S), N_ref03_Wrong_0 n (i : Int) b kx kr = bif (List.range' i d).any (rimP b) then kr 7 else kx b
  | 0, i, n + 1, hi, hn, S, kx, kr => by
    obtain rfl : i = 8 := by omega
    rw [N_ref03_Wrong_0_succ]
    rfl
  | d + 1, i, n + 1, hi, hn, S, kx, kr => by
    obtain ⟨e1, e2, e3⟩ := scan 8 (by omega) hi
    rw [N_ref03_Wrong_0_succ]
    unfold R_ref03_Wrong_0
    rw [show decide ((i : Int) < 8) = true from e1, inB_true (j := (i : Int)) (n := 64) (by omega), w64 (x := 56 + (i : Int)) (by omega), inB_true (j := 56 + (i : Int)) (n := 64) (by omega), e3,
      show (56 + (i : Int)).toNat = 56 + i by omega]
    simp only [cond_true, Int.toNat_natCast, N_ref03_Wrong_0_eq b d (i + 1) n (by omega) (by omega), List.range'_succ, List.any_cons, rimP]
    cases b.getD i 0 == 1 <;> cases b.getD i 0 == -1 <;> cases b.getD (56 + i) 0 == 1 <;> cases b.getD (56 + i) 0 == -1 <;> rfl

theorem kind_one (x : Int) : (kindM x == 1) = (x == 1 || x == -1) := by
  cases h : rightM x with
  | true => rcases men_cases h with rfl | rfl | rfl | rfl | rfl | rfl | rfl | rfl | rfl | rfl | rfl | rfl <;> rfl
  | false =>
    have h' := (right_or x).resolve_left (by rw [h]; simp)
    unfold kindM
    rw [h, h' 1 rfl, h' (-1) rfl]; rfl

theorem rim_same (b : List Int) : (List.range' 0 8).any (rimP b) = rimB b := by
  rw [Bool.eq_iff_iff]
  unfold rimB
  simp only [List.any_eq_true, List.mem_range'_1, kind_one]
  constructor
  · rintro ⟨f, hf, h⟩
    simp only [rimP, Bool.or_eq_true] at h
    rcases h with h | h | h | h
    · exact ⟨f, by omega, by rw [rankS_nat (by omega), h, show ((f : Int) / 8) = 0 by omega]; rfl⟩
    · exact ⟨f, by omega, by rw [rankS_nat (by omega), h, show ((f : Int) / 8) = 0 by omega, Bool.or_true]; rfl⟩
    · exact ⟨56 + f, by omega, by rw [rankS_nat (by omega), h, show (((56 + f : Nat) : Int) / 8) = 7 by omega]; rfl⟩
    · exact ⟨56 + f, by omega, by rw [rankS_nat (by omega), h, show (((56 + f : Nat) : Int) / 8) = 7 by omega, Bool.or_true]; rfl⟩
  · rintro ⟨s, hs, h⟩
    rw [rankS_nat (by omega)] at h
    simp only [Bool.and_eq_true, Bool.or_eq_true] at h
    obtain ⟨h1, h2 | h2⟩ := h
    · have : (s : Int) / 8 = 0 := by simpa using h2
      refine ⟨s, by omega, ?_⟩
      simp only [rimP, Bool.or_eq_true]
      rcases h1 with h1 | h1
      · exact .inl h1
      · exact .inr (.inl h1)
    · have : (s : Int) / 8 = 7 := by simpa using h2
      refine ⟨s - 56, by omega, ?_⟩
      simp only [rimP, Bool.or_eq_true]
      rw [show 56 + (s - 56) = s by omega]
      rcases h1 with h1 | h1
      · exact .inr (.inr (.inl h1))
      · exact .inr (.inr (.inr h1))

theorem beqL_rep : ∀ (n : Nat) (b : List Int), beqL (fun (x y : Int) => x == y) b (List.replicate n 0) = true → b.countP (· == 6) = 0
  | 0, [], _ => rfl
  | 0, _ :: _, h => by cases h
  | n + 1, [], h => by cases h
  | n + 1, x :: b, h => by
    simp only [List.replicate_succ, beqL, Bool.and_eq_true] at h
    have h0 : x = 0 := by simpa using h.1
    rw [countP_one, beqL_rep n b h.2, h0]; rfl

theorem ref03_Wrong_eq {b : List Int} (hb : Bd b) {S : Type} (k : Int → Option S) : F_ref03_Wrong b k = k (wrongB b) := by
  unfold F_ref03_Wrong R_ref03_Wrong wrongB
  simp only [ref03_Right_eq hb, ref03_Where_eq hb, whereL_len hb]
  have hL : ∀ (kx : List Int → Option S) (kr : Int → Option S), L_ref03_Wrong_0 0 b kx kr = bif rimB b then kr 7 else kx b := by
    intro kx kr
    rw [L_ref03_Wrong_0_N, ← rim_same]
    exact N_ref03_Wrong_0_eq b 8 0 _ rfl (by omega) kx kr
  rw [hL]
  simp only [ref03_Many0_eq hb, ref03_Many1_eq hb]
  have e0 : manyB b 6 0 = ((b.countP (· == 6) : Nat) : Int) := by unfold manyB; rw [kings0]
  have e1 : manyB b 6 1 = ((b.countP (· == -6) : Nat) : Int) := by unfold manyB; rw [kings1]
  rw [e0, e1]
  cases rightB b with
  | false => rfl
  | true =>
    cases hz : Ty.beq (.arr 64 (.int .i8)) b (List.replicate 64 (0 : Int)) with
    | true =>
      have := beqL_rep 64 b hz
      rw [this]; rfl
    | false =>
      cases ((b.countP (· == 6) : Nat) : Int) != 1 with
      | true => rfl
      | false =>
        cases ((b.countP (· == -6) : Nat) : Int) != 1 with
        | true => rfl
        | false =>
          cases rimB b with
          | true => rfl
          | false => cases decide (manyB b 0 0 > 16) <;> cases decide (manyB b 0 1 > 16) <;> rfl

end Go.Proofs.YtaldkopkfdgngaaGreatDoor

