/- Plain laws: the document's answer: moves. -/
import Derived.Test.YtaldkopkfdgngaaGreatDoorL12
import Derived.Test.YtaldkopkfdgngaaGreatDoorL7
set_option linter.all false
set_option maxRecDepth 100000
namespace Go.Proofs.YtaldkopkfdgngaaGreatDoor
open Go Am

theorem ref09_Pawn_eq {b : List Int} {s : Int} (hs : 0 ≤ s ∧ s < 64) {S : Type} (k : Bool → Option S) : F_ref09_Pawn b s k = k (kindM (b.getD s.toNat 0) == 1) := by
  unfold F_ref09_Pawn R_ref09_Pawn
  rw [inB_true (n := 64) hs, kind_one]
  cases b.getD s.toNat 0 == 1 <;> rfl

theorem ref09_Formed_eq {p : PosD} (hb : Bd p.1) (ht : p.2.1 = 0 ∨ p.2.1 = 1) (m : MoveD) {S : Type} (k : Bool → Option S) : F_ref09_Formed p m k = k (formedP p m) := by
  unfold F_ref09_Formed R_ref09_Formed formedP
  simp only [ref01_Right_eq]
  cases h1 : rightS m.1 with
  | false => rfl
  | true =>
    cases h2 : rightS m.2.1 with
    | false => rfl
    | true =>
      have b1 := rightS_iff.1 h1
      have b2 := rightS_iff.1 h2
      rw [inB_true (n := 64) b1, inB_true (n := 64) b2]
      simp only [ref02_Side_eq, hb.w, ref09_Pawn_eq b1, ref01_Rank_eq]
      unfold pawnP atM lastS
      have hz : (p.1.getD m.2.1.toNat 0 != 0 && sideM (p.1.getD m.2.1.toNat 0) == p.2.1) = (sideM (p.1.getD m.2.1.toNat 0) == p.2.1) := by
        cases hq : sideM (p.1.getD m.2.1.toNat 0) == p.2.1 with
        | false => simp
        | true =>
          have := side_ne ht (by simpa using hq)
          simpa using this
      rw [hz]
      rcases ht with ht | ht <;> rw [ht]
      · rw [show ((0 : Int) == 1) = false from rfl, show ((0 : Int) == 0) = true from rfl]
        simp only [cond_false, cond_true]
        cases sideM (p.1.getD m.1.toNat 0) != 0 <;> cases sideM (p.1.getD m.2.1.toNat 0) == 0 <;> cases kindM (p.1.getD m.1.toNat 0) == 1 <;> cases rankS m.2.1 == 7 <;> cases decide (m.2.2.1 ≥ 2) <;> rfl
      · rw [show ((1 : Int) == 1) = true from rfl, show ((1 : Int) == 0) = false from rfl]
        simp only [cond_false, cond_true]
        cases sideM (p.1.getD m.1.toNat 0) != 1 <;> cases sideM (p.1.getD m.2.1.toNat 0) == 1 <;> cases kindM (p.1.getD m.1.toNat 0) == 1 <;> cases rankS m.2.1 == 0 <;> cases decide (m.2.2.1 ≥ 2) <;> rfl

theorem ref09_Takes_eq {p : PosD} {m : MoveD} (h : Sq p m) {S : Type} (k : Int → Option S) : F_ref09_Takes p m k = k (takesP p m) := by
  unfold F_ref09_Takes R_ref09_Takes takesP
  have b1 := rightS_iff.1 h.fr
  have b2 := rightS_iff.1 h.to
  rw [inB_true (n := 64) b2]
  simp only [cond_true, ref09_Pawn_eq b1, ref01_File_eq, ref08_Passed_eq h.turn]
  unfold atM pawnP passedR atM
  rw [show (fileS m.2.1 != fileS m.1) = (fileS m.1 != fileS m.2.1) by rw [Bool.eq_iff_iff]; simp; omega]
  cases p.1.getD m.2.1.toNat 0 != 0 with
  | true => rfl
  | false =>
    cases kindM (p.1.getD m.1.toNat 0) == 1 with
    | false => rfl
    | true =>
      cases he : m.2.1 == p.2.2.2.1 with
      | false => cases decide (p.2.2.2.1 ≥ 0) <;> rfl
      | true =>
        have : m.2.1 = p.2.2.2.1 := by simpa using he
        rw [show decide (p.2.2.2.1 ≥ 0) = true by simp; omega]
        cases fileS m.1 != fileS m.2.1 <;> rfl

def clearR (b : List Int) (r : Int) : Bool :=
  bif r == 1 then b.getD 5 0 == 0 && b.getD 6 0 == 0 else bif r == 2 then b.getD 1 0 == 0 && (b.getD 2 0 == 0 && b.getD 3 0 == 0) else bif r == 4 then b.getD 61 0 == 0 && b.getD 62 0 == 0 else b.getD 57 0 == 0 && (b.getD 58 0 == 0 && b.getD 59 0 == 0)
theorem ref09_clear_eq (b : List Int) (r : Int) {S : Type} (k : Bool → Option S) : F_ref09_clear b r k = k (clearR b r) := by
  unfold F_ref09_clear R_ref09_clear clearR
  cases r == 1 <;> cases r == 2 <;> cases r == 4 <;> cases b.getD 5 0 == 0 <;> cases b.getD 1 0 == 0 <;> cases b.getD 2 0 == 0 <;> cases b.getD 61 0 == 0 <;> cases b.getD 57 0 == 0 <;> cases b.getD 58 0 == 0 <;> rfl

def rowR (p : PosD) (m : MoveD) (r f t king : Int) : Bool := bAnd .i64 p.2.2.1 r != 0 && (m.1 == f && (m.2.1 == t && (atM p m.1 == king && clearR p.1 r)))
def rightR (p : PosD) (m : MoveD) : Int := bif rowR p m 1 4 6 6 then 1 else bif rowR p m 2 4 2 6 then 2 else bif rowR p m 4 60 62 (-6) then 4 else bif rowR p m 8 60 58 (-6) then 8 else 0

def rowsL : List Int := [1, 4, 6, 2, 4, 2, 4, 60, 62, 8, 60, 58]
theorem N_ref09_Right_0_unroll (n : Nat) (p : PosD) (m : MoveD) {S : Type} (kx : Option S) (kr : Int → Option S) : N_ref09_Right_0 (n + 5) 0 p m rowsL kx kr =
    (let row (r f t king : Int) (next : Option S) : Option S := F_ref08_Has p.2.2.1 r fun z => bif z then (bif m.1 == f then (bif m.2.1 == t then (bif inB m.1 64 then (bif p.1.getD m.1.toNat 0 == king then F_ref09_clear p.1 r (fun z => bif z then kr r else next) else next) else none) else next) else next) else next
     row 1 4 6 6 (row 2 4 2 6 (row 4 60 62 (-6) (row 8 60 58 (-6) kx)))) := by kernel_rfl

theorem ref09_Right_eq {p : PosD} {m : MoveD} (hc : 0 ≤ p.2.2.1 ∧ p.2.2.1 ≤ 15) (hm : 0 ≤ m.1 ∧ m.1 < 64) {S : Type} (k : Int → Option S) : F_ref09_Right p m k = k (rightR p m) := by
  unfold F_ref09_Right R_ref09_Right
  have h : L_ref09_Right_0 0 p m [1, 4, 6, 2, 4, 2, 4, 60, 62, 8, 60, 58] (k 0) (fun z0 => k z0) = _ := N_ref09_Right_0_unroll 107 p m (k 0) (fun z0 => k z0)
  rw [h]
  simp only [ref08_Has_eq hc (r := 1) (by decide), ref08_Has_eq hc (r := 2) (by decide), ref08_Has_eq hc (r := 4) (by decide), ref08_Has_eq hc (r := 8) (by decide), inB_true (n := 64) hm, ref09_clear_eq]
  have hrow : ∀ (r f t king : Int) (kr next : Option S), (bif bAnd .i64 p.2.2.1 r != 0 then (bif m.1 == f then (bif m.2.1 == t then (bif true then (bif p.1.getD m.1.toNat 0 == king then (bif clearR p.1 r then kr else next) else next) else none) else next) else next) else next) = bif rowR p m r f t king then kr else next := by
    intro r f t king kr next
    unfold rowR atM
    cases bAnd .i64 p.2.2.1 r != 0 <;> cases m.1 == f <;> cases m.2.1 == t <;> cases p.1.getD m.1.toNat 0 == king <;> cases clearR p.1 r <;> rfl
  rw [hrow, hrow, hrow, hrow]
  unfold rightR
  cases rowR p m 1 4 6 6 <;> cases rowR p m 2 4 2 6 <;> cases rowR p m 4 60 62 (-6) <;> cases rowR p m 8 60 58 (-6) <;> rfl

theorem shl_v : shl .i64 1 0 = 1 ∧ shl .i64 2 0 = 2 ∧ shl .i64 1 2 = 4 ∧ shl .i64 2 2 = 8 := by decide +kernel

theorem make6 : makeM 6 0 = 6 ∧ makeM 6 1 = -6 := by decide

/-- The right by which a move castles is one right. -/
theorem castle_same {p : PosD} {m : MoveD} (h : Fm p m) (hc : 0 ≤ p.2.2.1 ∧ p.2.2.1 ≤ 15) : rightR p m = castleP p m := by
  have hmine := h.mine
  unfold rightR rowR castleP wingP
  rcases h.turn with ht | ht <;> rw [ht] at hmine ⊢
  · rw [make6.1, show 4 + 56 * (0 : Int) = 4 from rfl, show 2 * (0 : Int) = 0 from rfl, shl_v.1, shl_v.2.1]
    have h6 : (atM p m.1 == -6) = false := by
      cases hq : atM p m.1 == -6 with
      | false => rfl
      | true =>
        have : atM p m.1 = -6 := by simpa using hq
        rw [this] at hmine; cases hmine
    rw [h6]
    simp only [Bool.false_and, Bool.and_false, cond_false, bne_not]
    cases hk : atM p m.1 == 6 with
    | false => simp [bAnd_zero]
    | true =>
      cases hf : m.1 == 4 with
      | false => simp [bAnd_zero]
      | true =>
        have hf' : m.1 = 4 := by simpa using hf
        simp only [Bool.true_and, Bool.not_true, cond_false]
        by_cases h2 : m.2.1 = 6
        · rw [hf', h2]
          rw [show ((6 : Int) == 6) = true from rfl, show ((6 : Int) == 2) = false from rfl, show ((6 : Int) - 4 == 2) = true from rfl, show decide ((6 : Int) < 4) = false from rfl]
          simp only [Bool.true_and, Bool.false_and, Bool.and_false, cond_true, cond_false]
          rw [(has_of hc (r := 1) (by decide)).2]
          show (bif bAnd .i64 p.2.2.1 1 != 0 && (p.1.getD 5 0 == 0 && p.1.getD 6 0 == 0) then 1 else 0) = bif !((bif bAnd .i64 p.2.2.1 1 != 0 then 1 else 0) == 0) && (!(p.1.getD 5 0 == 0) || (!(p.1.getD 6 0 == 0) || false)) then 0 else (bif bAnd .i64 p.2.2.1 1 != 0 then 1 else 0)
          cases bAnd .i64 p.2.2.1 1 != 0 <;> cases p.1.getD 5 0 == 0 <;> cases p.1.getD 6 0 == 0 <;> rfl
        · by_cases h3 : m.2.1 = 2
          · rw [hf', h3]
            rw [show ((2 : Int) == 6) = false from rfl, show ((2 : Int) == 2) = true from rfl, show ((2 : Int) - 4 == 2) = false from rfl, show ((2 : Int) - 4 == -2) = true from rfl, show decide ((2 : Int) < 4) = true from rfl]
            simp only [Bool.true_and, Bool.false_and, Bool.and_false, cond_true, cond_false]
            rw [(has_of hc (r := 2) (by decide)).2]
            show (bif bAnd .i64 p.2.2.1 2 != 0 && (p.1.getD 1 0 == 0 && (p.1.getD 2 0 == 0 && p.1.getD 3 0 == 0)) then 2 else 0) = bif !((bif bAnd .i64 p.2.2.1 2 != 0 then 2 else 0) == 0) && (!(p.1.getD 3 0 == 0) || (!(p.1.getD 2 0 == 0) || (!(p.1.getD 1 0 == 0) || false))) then 0 else (bif bAnd .i64 p.2.2.1 2 != 0 then 2 else 0)
            cases bAnd .i64 p.2.2.1 2 != 0 <;> cases p.1.getD 1 0 == 0 <;> cases p.1.getD 2 0 == 0 <;> cases p.1.getD 3 0 == 0 <;> rfl
          · rw [hf', show (m.2.1 == 6) = false by simpa using h2, show (m.2.1 == 2) = false by simpa using h3, show (m.2.1 - 4 == 2) = false by simp; omega, show (m.2.1 - 4 == -2) = false by simp; omega]
            simp [bAnd_zero]
  · rw [make6.2, show 4 + 56 * (1 : Int) = 60 from rfl, show 2 * (1 : Int) = 2 from rfl, shl_v.2.2.1, shl_v.2.2.2]
    have h6 : (atM p m.1 == 6) = false := by
      cases hq : atM p m.1 == 6 with
      | false => rfl
      | true =>
        have : atM p m.1 = 6 := by simpa using hq
        rw [this] at hmine; cases hmine
    rw [h6]
    simp only [Bool.false_and, Bool.and_false, cond_false, bne_not]
    cases hk : atM p m.1 == -6 with
    | false => simp [bAnd_zero]
    | true =>
      cases hf : m.1 == 60 with
      | false => simp [bAnd_zero]
      | true =>
        have hf' : m.1 = 60 := by simpa using hf
        simp only [Bool.true_and, Bool.not_true, cond_false]
        by_cases h2 : m.2.1 = 62
        · rw [hf', h2]
          rw [show ((62 : Int) == 62) = true from rfl, show ((62 : Int) == 58) = false from rfl, show ((62 : Int) - 60 == 2) = true from rfl, show decide ((62 : Int) < 60) = false from rfl]
          simp only [Bool.true_and, Bool.false_and, Bool.and_false, cond_true, cond_false]
          rw [(has_of hc (r := 4) (by decide)).2]
          show (bif bAnd .i64 p.2.2.1 4 != 0 && (p.1.getD 61 0 == 0 && p.1.getD 62 0 == 0) then 4 else 0) = bif !((bif bAnd .i64 p.2.2.1 4 != 0 then 4 else 0) == 0) && (!(p.1.getD 61 0 == 0) || (!(p.1.getD 62 0 == 0) || false)) then 0 else (bif bAnd .i64 p.2.2.1 4 != 0 then 4 else 0)
          cases bAnd .i64 p.2.2.1 4 != 0 <;> cases p.1.getD 61 0 == 0 <;> cases p.1.getD 62 0 == 0 <;> rfl
        · by_cases h3 : m.2.1 = 58
          · rw [hf', h3]
            rw [show ((58 : Int) == 62) = false from rfl, show ((58 : Int) == 58) = true from rfl, show ((58 : Int) - 60 == 2) = false from rfl, show ((58 : Int) - 60 == -2) = true from rfl, show decide ((58 : Int) < 60) = true from rfl]
            simp only [Bool.true_and, Bool.false_and, Bool.and_false, cond_true, cond_false]
            rw [(has_of hc (r := 8) (by decide)).2]
            show (bif bAnd .i64 p.2.2.1 8 != 0 && (p.1.getD 57 0 == 0 && (p.1.getD 58 0 == 0 && p.1.getD 59 0 == 0)) then 8 else 0) = bif !((bif bAnd .i64 p.2.2.1 8 != 0 then 8 else 0) == 0) && (!(p.1.getD 59 0 == 0) || (!(p.1.getD 58 0 == 0) || (!(p.1.getD 57 0 == 0) || false))) then 0 else (bif bAnd .i64 p.2.2.1 8 != 0 then 8 else 0)
            cases bAnd .i64 p.2.2.1 8 != 0 <;> cases p.1.getD 57 0 == 0 <;> cases p.1.getD 58 0 == 0 <;> cases p.1.getD 59 0 == 0 <;> rfl
          · rw [hf', show (m.2.1 == 62) = false by simpa using h2, show (m.2.1 == 58) = false by simpa using h3, show (m.2.1 - 60 == 2) = false by simp; omega, show (m.2.1 - 60 == -2) = false by simp; omega]
            simp [bAnd_zero]

end Go.Proofs.YtaldkopkfdgngaaGreatDoor

