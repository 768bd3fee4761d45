/- Plain laws: the document's answer: the position behind a move. -/
import Derived.Test.YtidjjbhadehclaaGreatL13
set_option linter.all false
set_option maxRecDepth 100000
namespace Go.Proofs.YtidjjbhadehclaaGreat
open Go Am

def lostS (s : Int) : Int := bif s == 0 then 2 else bif s == 4 then 3 else bif s == 7 then 1 else bif s == 56 then 8 else bif s == 60 then 12 else bif s == 63 then 4 else 0
theorem ref09_lost_eq (s : Int) {S : Type} (k : Int → Option S) : F_ref09_lost s k = k (lostS s) := by
  unfold F_ref09_lost R_ref09_lost lostS
  cases s == 0 <;> cases s == 4 <;> cases s == 7 <;> cases s == 56 <;> cases s == 60 <;> cases s == 63 <;> rfl

def goneB (z r : Int) : Bool := Int.tmod (IntKind.wrap .i64 (Int.tdiv z r)) 2 == 0
def stepC (c f t acc r : Int) : Int := bif bAnd .i64 c r != 0 && (goneB (lostS f) r && goneB (lostS t) r) then IntKind.wrap .i64 (acc + r) else acc
def castR (c f t acc : Int) : Int := stepC c f t (stepC c f t (stepC c f t (stepC c f t acc 1) 2) 4) 8

theorem cornersF_m (m : MoveD) : ∀ (l : List StepD) (c : Int), cornersF m c l = cornersF (m.1, m.2.1, 0, ()) c l
  | [], _ => rfl
  | x :: l, c => by unfold cornersF; exact cornersF_m m l _

def reps : List Int := [0, 4, 7, 56, 60, 63, 1]
def cornB : Bool := (List.range 16).all fun c => reps.all fun f => reps.all fun t => castR (c : Nat) f t 0 == cornersF (f, t, 0, ()) (c : Nat) cornersS
theorem corn_all : cornB = true := by kernel_rfl

theorem rep_of (f : Int) : ∃ f' ∈ reps, lostS f = lostS f' ∧ ∀ x ∈ cornersS, (x.1 == f) = (x.1 == f') := by
  by_cases h : f = 0 ∨ f = 4 ∨ f = 7 ∨ f = 56 ∨ f = 60 ∨ f = 63
  · refine ⟨f, ?_, rfl, fun _ _ => rfl⟩
    rcases h with rfl | rfl | rfl | rfl | rfl | rfl <;> decide
  · refine ⟨1, by decide, ?_, ?_⟩
    · unfold lostS
      rw [show (f == 0) = false by simp; omega, show (f == 4) = false by simp; omega, show (f == 7) = false by simp; omega, show (f == 56) = false by simp; omega, show (f == 60) = false by simp; omega, show (f == 63) = false by simp; omega]
      rfl
    · intro x hx
      simp only [cornersS, List.mem_cons, List.mem_nil_iff, or_false] at hx
      rcases hx with rfl | rfl | rfl | rfl | rfl | rfl <;> simp <;> omega

theorem cornersF_congr {f t f' t' : Int} : ∀ (l : List StepD) (c : Int), (∀ x ∈ l, (x.1 == f) = (x.1 == f') ∧ (x.1 == t) = (x.1 == t')) → cornersF (f, t, 0, ()) c l = cornersF (f', t', 0, ()) c l
  | [], _, _ => rfl
  | x :: l, c, h => by
    obtain ⟨h1, h2⟩ := h x (by simp)
    unfold cornersF
    rw [show (x.1 == ((f, t, 0, ()) : MoveD).1) = (x.1 == ((f', t', 0, ()) : MoveD).1) from h1, show (x.1 == ((f, t, 0, ()) : MoveD).2.1) = (x.1 == ((f', t', 0, ()) : MoveD).2.1) from h2]
    exact cornersF_congr l _ (fun y hy => h y (by simp [hy]))

theorem corn_of {c f t : Int} (hc : 0 ≤ c ∧ c ≤ 15) : castR c f t 0 = cornersF (f, t, 0, ()) c cornersS := by
  obtain ⟨f', f1, f2, f3⟩ := rep_of f
  obtain ⟨t', t1, t2, t3⟩ := rep_of t
  have h := corn_all
  unfold cornB at h
  rw [List.all_eq_true] at h
  have h1 := h c.toNat (by simp; omega)
  rw [List.all_eq_true] at h1
  have h2 := h1 f' f1
  rw [List.all_eq_true] at h2
  have h3 := h2 t' t1
  rw [show ((c.toNat : Nat) : Int) = c by omega] at h3
  have h4 : castR c f' t' 0 = cornersF (f', t', 0, ()) c cornersS := by simpa using h3
  rw [cornersF_congr cornersS c (fun x hx => ⟨f3 x hx, t3 x hx⟩), ← h4]
  unfold castR stepC
  rw [f2, t2]

theorem N_ref09_Behind_0_step {p : PosD} (hc : 0 ≤ p.2.2.1 ∧ p.2.2.1 ≤ 15) (m : MoveD) (p0 q : PosD) (n : Nat) {r : Int} (hr : r ∈ rights4) {S : Type} (kx : PosD → MoveD → PosD → PosD → Option S) (kr : Option S) :
    N_ref09_Behind_0 (n + 1) r p m p0 q kx kr = N_ref09_Behind_0 n (2 * r) p m p0 (q.1, q.2.1, stepC p.2.2.1 m.1 m.2.1 q.2.2.1 r, q.2.2.2) kx kr := by
  rw [N_ref09_Behind_0_succ]
  unfold R_ref09_Behind_0 stepC goneB
  simp only [ref08_Has_eq hc hr, ref09_lost_eq]
  have h1 : decide (r ≤ 8) = true := by rcases r4_cases hr with rfl | rfl | rfl | rfl <;> rfl
  have h2 : IntKind.wrap .i64 (2 * r) = 2 * r := by rcases r4_cases hr with rfl | rfl | rfl | rfl <;> rfl
  have h3 : (r == 0) = false := by rcases r4_cases hr with rfl | rfl | rfl | rfl <;> rfl
  rw [h1, h2, h3]
  cases bAnd .i64 p.2.2.1 r != 0 <;> cases (IntKind.i64.wrap ((lostS m.1).tdiv r)).tmod 2 == 0 <;> cases (IntKind.i64.wrap ((lostS m.2.1).tdiv r)).tmod 2 == 0 <;> rfl

theorem L_ref09_Behind_0_eq {p : PosD} (hc : 0 ≤ p.2.2.1 ∧ p.2.2.1 ≤ 15) (m : MoveD) (p0 q : PosD) {S : Type} (kx : PosD → MoveD → PosD → PosD → Option S) (kr : Option S) :
    L_ref09_Behind_0 1 p m p0 q kx kr = kx p m p0 (q.1, q.2.1, castR p.2.2.1 m.1 m.2.1 q.2.2.1, q.2.2.2) := by
  rw [L_ref09_Behind_0_N, N_ref09_Behind_0_step hc m p0 _ 99 (r := 1) (by decide), N_ref09_Behind_0_step hc m p0 _ 98 (r := 2 * 1) (by decide), N_ref09_Behind_0_step hc m p0 _ 97 (r := 2 * (2 * 1)) (by decide), N_ref09_Behind_0_step hc m p0 _ 96 (r := 2 * (2 * (2 * 1))) (by decide)]
  rw [N_ref09_Behind_0_succ]
  rfl

theorem wrong_spec {p : PosD} (h : wrongP p = 0) : (wrongB p.1 != 0) = false ∧ (0 ≤ p.2.2.1 ∧ p.2.2.1 ≤ 15) ∧ (-1 ≤ p.2.2.2.1 ∧ p.2.2.2.1 < 64) ∧ castlesP p = true := by
  unfold wrongP at h
  cases h1 : wrongB p.1 != 0 with
  | true => rw [h1] at h; simp at h1; exact (h1 h).elim
  | false =>
    rw [h1] at h
    cases h2 : decide (otherS p.2.1 < 0) with
    | true => rw [h2] at h; cases h
    | false =>
      cases h3 : decide (p.2.2.1 < 0) with
      | true => rw [h2, h3] at h; cases h
      | false =>
        cases h4 : decide (p.2.2.1 > 15) with
        | true => rw [h2, h3, h4] at h; cases h
        | false =>
          cases h5 : decide (p.2.2.2.1 < -1) with
          | true => rw [h2, h3, h4, h5] at h; cases h
          | false =>
            cases h6 : decide (p.2.2.2.1 ≥ 64) with
            | true => rw [h2, h3, h4, h5, h6] at h; cases h
            | false =>
              rw [h2, h3, h4, h5, h6] at h
              cases h7 : decide (farS (kingB p.1 0) (kingB p.1 1) ≤ 1) with
              | true => rw [h7] at h; cases h
              | false =>
                cases h8 : checkB p.1 (otherS p.2.1) with
                | true => rw [h7, h8] at h; cases h
                | false =>
                  cases h9 : castlesP p with
                  | false => rw [h7, h8, h9] at h; cases h
                  | true =>
                    simp at h3 h4 h5 h6
                    exact ⟨rfl, by omega, by omega, rfl⟩

theorem backed_of {p : PosD} (h : castlesP p = true) {r : Int} (hr : r ∈ rights4) (hh : (bAnd .i64 p.2.2.1 r != 0) = true) : backedP p.1 r = true := by
  unfold castlesP at h
  rw [List.all_eq_true] at h
  have := h r hr
  rw [hh] at this
  simpa using this

/-- How a move castles. -/
def CastleF (p : PosD) (m : MoveD) : Prop :=
  castleP p m = 0 ∨ ((castleP p m = 1 ∨ castleP p m = 4) ∧ m.2.1 = m.1 + 2 ∧ p.1.getD (m.1 + 3).toNat 0 = 4 - 8 * p.2.1) ∨ ((castleP p m = 2 ∨ castleP p m = 8) ∧ m.2.1 = m.1 - 2 ∧ p.1.getD (m.1 - 4).toNat 0 = 4 - 8 * p.2.1)

theorem row_spec {p : PosD} {m : MoveD} {r f t king : Int} (h : rowR p m r f t king = true) : (bAnd .i64 p.2.2.1 r != 0) = true ∧ m.1 = f ∧ m.2.1 = t ∧ atM p m.1 = king := by
  unfold rowR at h
  simp only [Bool.and_eq_true, beq_iff_eq] at h
  exact ⟨h.1, h.2.1, h.2.2.1, h.2.2.2.1⟩

theorem castle_facts {p : PosD} {m : MoveD} (h : Fm p m) (hw : wrongP p = 0) : CastleF p m := by
  obtain ⟨_, hc, _, hcs⟩ := wrong_spec hw
  have hmine := h.mine
  unfold CastleF
  rw [← castle_same h hc]
  unfold rightR
  cases h1 : rowR p m 1 4 6 6 with
  | true =>
    obtain ⟨q1, q2, q3, q4⟩ := row_spec h1
    rw [q4] at hmine
    have ht : p.2.1 = 0 := hmine.symm
    have hb := backed_of hcs (r := 1) (by decide) q1
    have hb' : p.1.getD 7 0 = 4 := by
      have : (p.1.getD 4 0 == 6 && p.1.getD 7 0 == 4) = true := hb
      simp only [Bool.and_eq_true, beq_iff_eq] at this
      exact this.2
    refine .inr (.inl ⟨.inl rfl, by omega, ?_⟩)
    rw [q2, ht]; exact hb'
  | false =>
    cases h2 : rowR p m 2 4 2 6 with
    | true =>
      obtain ⟨q1, q2, q3, q4⟩ := row_spec h2
      rw [q4] at hmine
      have ht : p.2.1 = 0 := hmine.symm
      have hb := backed_of hcs (r := 2) (by decide) q1
      have hb' : p.1.getD 0 0 = 4 := by
        have : (p.1.getD 4 0 == 6 && p.1.getD 0 0 == 4) = true := hb
        simp only [Bool.and_eq_true, beq_iff_eq] at this
        exact this.2
      refine .inr (.inr ⟨.inl rfl, by omega, ?_⟩)
      rw [q2, ht]; exact hb'
    | false =>
      cases h3 : rowR p m 4 60 62 (-6) with
      | true =>
        obtain ⟨q1, q2, q3, q4⟩ := row_spec h3
        rw [q4] at hmine
        have ht : p.2.1 = 1 := hmine.symm
        have hb := backed_of hcs (r := 4) (by decide) q1
        have hb' : p.1.getD 63 0 = -4 := by
          have : (p.1.getD 60 0 == -6 && p.1.getD 63 0 == -4) = true := hb
          simp only [Bool.and_eq_true, beq_iff_eq] at this
          exact this.2
        refine .inr (.inl ⟨.inr rfl, by omega, ?_⟩)
        rw [q2, ht]; exact hb'
      | false =>
        cases h4 : rowR p m 8 60 58 (-6) with
        | true =>
          obtain ⟨q1, q2, q3, q4⟩ := row_spec h4
          rw [q4] at hmine
          have ht : p.2.1 = 1 := hmine.symm
          have hb := backed_of hcs (r := 8) (by decide) q1
          have hb' : p.1.getD 56 0 = -4 := by
            have : (p.1.getD 60 0 == -6 && p.1.getD 56 0 == -4) = true := hb
            simp only [Bool.and_eq_true, beq_iff_eq] at this
            exact this.2
          refine .inr (.inr ⟨.inr rfl, by omega, ?_⟩)
          rw [q2, ht]; exact hb'
        | false => exact .inl rfl

/-! ### boards -/
section
variable {p : PosD} {m : MoveD}

def beh (p : PosD) (m : MoveD) : List Int := bif decide (m.2.2.1 > 0) then (((do1 p m).set m.2.1.toNat (atM p m.1)).set m.2.1.toNat (makeM m.2.2.1 p.2.1)).set m.1.toNat 0 else ((do1 p m).set m.2.1.toNat (atM p m.1)).set m.1.toNat 0

theorem beh_eq (h : Fm p m) : beh p m = do3 p m := by
  have b1 := rightS_iff.1 h.fr
  have b2 := rightS_iff.1 h.to
  have hne : m.2.1.toNat ≠ m.1.toNat := fun he => toNat_ne b1.1 b2.1 h.ne he.symm
  unfold beh do3 do2
  by_cases hp : m.2.2.1 = 0
  · rw [hp]
    simp only [show decide ((0 : Int) > 0) = false from rfl, show ((0 : Int) != 0) = false from rfl, cond_false]
    rw [List.set_comm _ _ hne]
  · obtain ⟨_, p1, p2⟩ := h.promo hp
    rw [show decide (m.2.2.1 > 0) = true by simp; omega, show (m.2.2.1 != 0) = true by simpa using hp]
    simp only [cond_true]
    rw [List.set_comm _ _ hne, List.set_comm _ _ hne]

theorem castle_rook (h : Fm p m) {r : Int} (hr : 0 ≤ r ∧ r < 64) (h1 : r ≠ m.1) (h2 : r ≠ m.2.1) (hk : decide (takesP p m ≥ 0) = false) : (do3 p m).getD r.toNat 0 = p.1.getD r.toNat 0 := by
  rw [do3_at h _ hr.1 (fun he => h2 he.symm), do2_at h _ hr.1, if_neg (fun he => h2 he.symm), if_neg (fun he => h1 he.symm)]
  unfold do1
  rw [hk]; rfl

theorem castle_notake (h : Fm p m) (hc : castleP p m ≠ 0) : decide (takesP p m ≥ 0) = false := by
  obtain ⟨h1, h2, h3⟩ := castle_spec hc
  have hpawn : pawnP p m = false := by
    unfold pawnP; rw [h1]
    rcases h.turn with ht | ht <;> rw [ht] <;> rfl
  have hto : atM p m.2.1 = 0 := by
    rcases h3 with ⟨e, _, e2⟩ | ⟨e, _, e2, _⟩ <;> rw [e, e2]
  unfold takesP
  rw [hto, hpawn]; rfl

/-- What pawns leave behind. -/
theorem two_same (h : Sq p m) : ((m.2.1 - m.1 == 16) || (m.1 - m.2.1 == 16)) = (fileS m.1 == fileS m.2.1 && farS m.1 m.2.1 == 2) := by
  have b1 := rightS_iff.1 h.fr
  have b2 := rightS_iff.1 h.to
  unfold farS gapS
  rw [h.fr, h.to, fileS_of b1, fileS_of b2, rankS_of b1, rankS_of b2, Bool.eq_iff_iff]
  simp only [Bool.and_self, cond_true, Bool.or_eq_true, Bool.and_eq_true, beq_iff_eq]
  split <;> split <;> split <;> omega
end

end Go.Proofs.YtidjjbhadehclaaGreat
