/- Plain laws: the document's answer: moves. -/
import Derived.Test.YtaldkopkfdgngaaGreatDoorL12
import Derived.Test.YtaldkopkfdgngaaGreatDoorL7
set_option linter.all false
set_option maxRecDepth 100000
namespace Go.Proofs.YtaldkopkfdgngaaGreatDoor
open Go Am

def clearR (b : List Int) (r : Int) : Bool :=
  bif r == 1 then b.getD 5 0 == 0 && b.getD 6 0 == 0 else bif r == 2 then b.getD 1 0 == 0 && (b.getD 2 0 == 0 && b.getD 3 0 == 0) else bif r == 4 then b.getD 61 0 == 0 && b.getD 62 0 == 0 else b.getD 57 0 == 0 && (b.getD 58 0 == 0 && b.getD 59 0 == 0)
def rowR (p : PosD) (m : MoveD) (r f t king : Int) : Bool := bAnd .i64 p.2.2.1 r != 0 && (m.1 == f && (m.2.1 == t && (atM p m.1 == king && clearR p.1 r)))
def rightR (p : PosD) (m : MoveD) : Int := bif rowR p m 1 4 6 6 then 1 else bif rowR p m 2 4 2 6 then 2 else bif rowR p m 4 60 62 (-6) then 4 else bif rowR p m 8 60 58 (-6) then 8 else 0

theorem shl_v : shl .i64 1 0 = 1 ∧ shl .i64 2 0 = 2 ∧ shl .i64 1 2 = 4 ∧ shl .i64 2 2 = 8 := by decide +kernel

theorem make6 : makeM 6 0 = 6 ∧ makeM 6 1 = -6 := by decide

/-- The right by which a move castles is one right. -/
theorem castle_same {p : PosD} {m : MoveD} (h : Fm p m) (hc : 0 ≤ p.2.2.1 ∧ p.2.2.1 ≤ 15) : rightR p m = castleP p m := by
  have hmine := h.mine
  unfold rightR rowR castleP wingP
  rcases h.turn with ht | ht <;> rw [ht] at hmine ⊢
  · rw [make6.1, show 4 + 56 * (0 : Int) = 4 from rfl, show 2 * (0 : Int) = 0 from rfl, shl_v.1, shl_v.2.1]
    have h6 : (atM p m.1 == -6) = false := by
      cases hq : atM p m.1 == -6 with
      | false => rfl
      | true =>
        have : atM p m.1 = -6 := by simpa using hq
        rw [this] at hmine; cases hmine
    rw [h6]
    simp only [Bool.false_and, Bool.and_false, cond_false, bne_not]
    cases hk : atM p m.1 == 6 with
    | false => simp [bAnd_zero]
    | true =>
      cases hf : m.1 == 4 with
      | false => simp [bAnd_zero]
      | true =>
        have hf' : m.1 = 4 := by simpa using hf
        simp only [Bool.true_and, Bool.not_true, cond_false]
        by_cases h2 : m.2.1 = 6
        · rw [hf', h2]
          rw [show ((6 : Int) == 6) = true from rfl, show ((6 : Int) == 2) = false from rfl, show ((6 : Int) - 4 == 2) = true from rfl, show decide ((6 : Int) < 4) = false from rfl]
          simp only [Bool.true_and, Bool.false_and, Bool.and_false, cond_true, cond_false]
          rw [(has_of hc (r := 1) (by decide)).2]
          show (bif bAnd .i64 p.2.2.1 1 != 0 && (p.1.getD 5 0 == 0 && p.1.getD 6 0 == 0) then 1 else 0) = bif !((bif bAnd .i64 p.2.2.1 1 != 0 then 1 else 0) == 0) && (!(p.1.getD 5 0 == 0) || (!(p.1.getD 6 0 == 0) || false)) then 0 else (bif bAnd .i64 p.2.2.1 1 != 0 then 1 else 0)
          cases bAnd .i64 p.2.2.1 1 != 0 <;> cases p.1.getD 5 0 == 0 <;> cases p.1.getD 6 0 == 0 <;> rfl
        · by_cases h3 : m.2.1 = 2
          · rw [hf', h3]
            rw [show ((2 : Int) == 6) = false from rfl, show ((2 : Int) == 2) = true from rfl, show ((2 : Int) - 4 == 2) = false from rfl, show ((2 : Int) - 4 == -2) = true from rfl, show decide ((2 : Int) < 4) = true from rfl]
            simp only [Bool.true_and, Bool.false_and, Bool.and_false, cond_true, cond_false]
            rw [(has_of hc (r := 2) (by decide)).2]
            show (bif bAnd .i64 p.2.2.1 2 != 0 && (p.1.getD 1 0 == 0 && (p.1.getD 2 0 == 0 && p.1.getD 3 0 == 0)) then 2 else 0) = bif !((bif bAnd .i64 p.2.2.1 2 != 0 then 2 else 0) == 0) && (!(p.1.getD 3 0 == 0) || (!(p.1.getD 2 0 == 0) || (!(p.1.getD 1 0 == 0) || false))) then 0 else (bif bAnd .i64 p.2.2.1 2 != 0 then 2 else 0)
            cases bAnd .i64 p.2.2.1 2 != 0 <;> cases p.1.getD 1 0 == 0 <;> cases p.1.getD 2 0 == 0 <;> cases p.1.getD 3 0 == 0 <;> rfl
          · rw [hf', show (m.2.1 == 6) = false by simpa using h2, show (m.2.1 == 2) = false by simpa using h3, show (m.2.1 - 4 == 2) = false by simp; omega, show (m.2.1 - 4 == -2) = false by simp; omega]
            simp [bAnd_zero]
  · rw [make6.2, show 4 + 56 * (1 : Int) = 60 from rfl, show 2 * (1 : Int) = 2 from rfl, shl_v.2.2.1, shl_v.2.2.2]
    have h6 : (atM p m.1 == 6) = false := by
      cases hq : atM p m.1 == 6 with
      | false => rfl
      | true =>
        have : atM p m.1 = 6 := by simpa using hq
        rw [this] at hmine; cases hmine
    rw [h6]
    simp only [Bool.false_and, Bool.and_false, cond_false, bne_not]
    cases hk : atM p m.1 == -6 with
    | false => simp [bAnd_zero]
    | true =>
      cases hf : m.1 == 60 with
      | false => simp [bAnd_zero]
      | true =>
        have hf' : m.1 = 60 := by simpa using hf
        simp only [Bool.true_and, Bool.not_true, cond_false]
        by_cases h2 : m.2.1 = 62
        · rw [hf', h2]
          rw [show ((62 : Int) == 62) = true from rfl, show ((62 : Int) == 58) = false from rfl, show ((62 : Int) - 60 == 2) = true from rfl, show decide ((62 : Int) < 60) = false from rfl]
          simp only [Bool.true_and, Bool.false_and, Bool.and_false, cond_true, cond_false]
          rw [(has_of hc (r := 4) (by decide)).2]
          show (bif bAnd .i64 p.2.2.1 4 != 0 && (p.1.getD 61 0 == 0 && p.1.getD 62 0 == 0) then 4 else 0) = bif !((bif bAnd .i64 p.2.2.1 4 != 0 then 4 else 0) == 0) && (!(p.1.getD 61 0 == 0) || (!(p.1.getD 62 0 == 0) || false)) then 0 else (bif bAnd .i64 p.2.2.1 4 != 0 then 4 else 0)
          cases bAnd .i64 p.2.2.1 4 != 0 <;> cases p.1.getD 61 0 == 0 <;> cases p.1.getD 62 0 == 0 <;> rfl
        · by_cases h3 : m.2.1 = 58
          · rw [hf', h3]
            rw [show ((58 : Int) == 62) = false from rfl, show ((58 : Int) == 58) = true from rfl, show ((58 : Int) - 60 == 2) = false from rfl, show ((58 : Int) - 60 == -2) = true from rfl, show decide ((58 : Int) < 60) = true from rfl]
            simp only [Bool.true_and, Bool.false_and, Bool.and_false, cond_true, cond_false]
            rw [(has_of hc (r := 8) (by decide)).2]
            show (bif bAnd .i64 p.2.2.1 8 != 0 && (p.1.getD 57 0 == 0 && (p.1.getD 58 0 == 0 && p.1.getD 59 0 == 0)) then 8 else 0) = bif !((bif bAnd .i64 p.2.2.1 8 != 0 then 8 else 0) == 0) && (!(p.1.getD 59 0 == 0) || (!(p.1.getD 58 0 == 0) || (!(p.1.getD 57 0 == 0) || false))) then 0 else (bif bAnd .i64 p.2.2.1 8 != 0 then 8 else 0)
            cases bAnd .i64 p.2.2.1 8 != 0 <;> cases p.1.getD 57 0 == 0 <;> cases p.1.getD 58 0 == 0 <;> cases p.1.getD 59 0 == 0 <;> rfl
          · rw [hf', show (m.2.1 == 62) = false by simpa using h2, show (m.2.1 == 58) = false by simpa using h3, show (m.2.1 - 60 == 2) = false by simp; omega, show (m.2.1 - 60 == -2) = false by simp; omega]
            simp [bAnd_zero]

end Go.Proofs.YtaldkopkfdgngaaGreatDoor

