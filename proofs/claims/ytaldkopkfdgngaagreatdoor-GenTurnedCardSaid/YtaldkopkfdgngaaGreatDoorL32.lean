/- Plain laws: the document's answer: pawns, what is struck. -/
import Derived.Test.YtaldkopkfdgngaaGreatDoorL27
set_option linter.all false
set_option maxRecDepth 100000
namespace Go.Proofs.YtaldkopkfdgngaaGreatDoor
open Go Am

def upT (t : Int) : Int := bif t == 1 then -8 else 8
def firstR (p : PosD) (m : MoveD) : Bool := (ofM (atM p m.1) m.1).any (fun l => l.getD 0 0 == m.2.1)
def stepR2 (p : PosD) (m : MoveD) : Bool := atM p m.2.1 == 0 && (m.2.1 == m.1 + upT p.2.1 || (m.2.1 == m.1 + 2 * upT p.2.1 && (rankS m.1 == secondT p.2.1 && atM p (m.1 + upT p.2.1) == 0)))
/-- Does a pawn go so? -/
def pawnR (p : PosD) (m : MoveD) : Bool := stepR2 p m || (firstR p m && decide (takesP p m ≥ 0))

theorem ofM_ne {m s : Int} : ∀ l ∈ ofM m s, 0 < l.length := by
  intro l hl
  unfold ofM at hl
  cases hm : rightM m with
  | false => rw [hm] at hl; cases hl
  | true =>
    rw [hm] at hl
    simp only [cond_true, ofS, List.mem_filter] at hl
    obtain ⟨_, h2⟩ := hl
    cases l with
    | nil => cases h2
    | cons => simp

theorem rank_second {s t : Int} (hs : 0 ≤ s ∧ s < 64) (ht : t = 0 ∨ t = 1) (h : (rankS s == secondT t) = true) : 0 ≤ s + upT t ∧ s + upT t < 64 := by
  have h' : rankS s = secondT t := by simpa using h
  rw [rankS_of hs] at h'
  rcases ht with rfl | rfl
  · have e1 : secondT 0 = 1 := rfl
    have e2 : upT 0 = 8 := rfl
    rw [e1] at h'; rw [e2]; omega
  · have e1 : secondT 1 = 6 := rfl
    have e2 : upT 1 = -8 := rfl
    rw [e1] at h'; rw [e2]; omega

end Go.Proofs.YtaldkopkfdgngaaGreatDoor

