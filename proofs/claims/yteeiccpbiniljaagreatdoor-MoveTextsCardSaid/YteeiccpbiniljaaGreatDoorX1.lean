/- Plain laws: the text of a move. -/
import Derived.Test.YteeiccpbiniljaaGreatDoorL8
import Derived.Test.YteeiccpbiniljaaGreatDoorTx1
import Derived.Lib.Strings
import Derived.KernelRfl
set_option linter.all false
set_option maxRecDepth 100000
namespace Go.Proofs.YteeiccpbiniljaaGreatDoor
open Go Am

theorem tol (s : ByteArray) : ByteArray.toList s = bts s := Go.Lib.toList_data s
def mkB (l : List UInt8) : ByteArray := ⟨l.toArray⟩
theorem bts_mkB (l : List UInt8) : bts (mkB l) = l := bts_mk l
theorem mkB_bts (s : ByteArray) : mkB (bts s) = s := bts_ext (bts_mkB _)
theorem mkB_append (a b : List UInt8) : mkB a ++ mkB b = mkB (a ++ b) := bts_ext (by rw [bts_append, bts_mkB, bts_mkB, bts_mkB])
theorem mkB_size (l : List UInt8) : (mkB l).size = l.length := by rw [← bts_len, bts_mkB]

/-! ### squares -/
def nameL (s : Int) : List UInt8 := [UInt8.ofNat (97 + (s % 8).toNat), UInt8.ofNat (49 + (s / 8).toNat)]
def eqU (a b : List UInt8) : Bool := a == b
def nameB : Bool := (List.range 64).all fun n => let s : Int := (n : Nat)
  eqU (bts (Go.runesBytes (List.set (List.set (List.replicate 2 0) 0 (Go.IntKind.wrap .i32 (Go.IntKind.wrap .i64 (97 + (Int.tmod s 8))))) 1 (Go.IntKind.wrap .i32 (Go.IntKind.wrap .i64 (49 + (Go.IntKind.wrap .i64 (Int.tdiv s 8)))))))) (nameL s)
theorem name_all : nameB = true := by kernel_rfl
theorem square_Name_eq {s : Int} (hs : 0 ≤ s ∧ s < 64) {S : Type} (k : ByteArray → Option S) : F_square_Name s k = k (mkB (nameL s)) := by
  unfold F_square_Name R_square_Name
  simp only [square_Right_eq, rightS_iff.2 hs, Bool.not_true, cond_false]
  have h := name_all
  unfold nameB at h
  rw [List.all_eq_true] at h
  have h1 := h s.toNat (by simp; omega)
  simp only [Int.toNat_of_nonneg hs.1] at h1
  have h2 := eq_of_beq (show (_ == _) = true from h1)
  congr 1
  exact bts_ext (by rw [h2, bts_mkB])

def nameRB : Bool := (List.range 64).all fun n => let s : Int := (n : Nat)
  eqU (bts (ByteArray.extract (ByteArray.mk (List.toArray [97, 98, 99, 100, 101, 102, 103, 104])) (Int.toNat (s % 8)) (Int.toNat (s % 8 + 1)) ++ ByteArray.extract (ByteArray.mk (List.toArray [49, 50, 51, 52, 53, 54, 55, 56])) (Int.toNat (s / 8)) (Int.toNat (s / 8 + 1)))) (nameL s) &&
  decide ((ByteArray.extract (ByteArray.mk (List.toArray [97, 98, 99, 100, 101, 102, 103, 104])) (Int.toNat (s % 8)) (Int.toNat (s % 8 + 1))).size + (ByteArray.extract (ByteArray.mk (List.toArray [49, 50, 51, 52, 53, 54, 55, 56])) (Int.toNat (s / 8)) (Int.toNat (s / 8 + 1))).size ≤ 9223372036854775807)
theorem nameR_all : nameRB = true := by kernel_rfl
theorem ref01_Name_eq {s : Int} (hs : 0 ≤ s ∧ s < 64) {S : Type} (k : ByteArray → Option S) : F_ref01_Name s k = k (mkB (nameL s)) := by
  unfold F_ref01_Name R_ref01_Name
  simp only [ref01_Right_eq, rightS_iff.2 hs, Bool.not_true, cond_false, ref01_File_eq, ref01_Rank_eq, fileS_of hs, rankS_of hs]
  have h := nameR_all
  unfold nameRB at h
  rw [List.all_eq_true] at h
  have h1 := h s.toNat (by simp; omega)
  simp only [Int.toNat_of_nonneg hs.1, Bool.and_eq_true] at h1
  have h2 := eq_of_beq (show (_ == _) = true from h1.1)
  rw [w64 (x := s % 8 + 1) (by omega), w64 (x := s / 8 + 1) (by omega)]
  rw [show (decide (0 ≤ s % 8 + 1) && decide (s % 8 + 1 ≤ 8)) = true by simp; omega, show (decide (0 ≤ s % 8) && decide (s % 8 ≤ s % 8 + 1)) = true by simp; omega,
    show (decide (0 ≤ s / 8 + 1) && decide (s / 8 + 1 ≤ 8)) = true by simp; omega, show (decide (0 ≤ s / 8) && decide (s / 8 ≤ s / 8 + 1)) = true by simp; omega, h1.2]
  simp only [cond_true]
  congr 1
  exact bts_ext (by rw [h2, bts_mkB])

/-! ### letters -/
def smallL (k : Int) : List UInt8 := bif k == 2 then [110] else bif k == 3 then [98] else bif k == 4 then [114] else bif k == 5 then [113] else []
theorem promo_cases {k : Int} (h : k = 0 ∨ 2 ≤ k ∧ k ≤ 5) : k = 0 ∨ k = 2 ∨ k = 3 ∨ k = 4 ∨ k = 5 := by omega
theorem letter0 {S : Type} (k : ByteArray → Option S) : F_men_Letter 0 k = k (mkB []) := by kernel_rfl
theorem letter2 {S : Type} (k : ByteArray → Option S) : F_men_Letter 2 k = k (mkB [78]) := by kernel_rfl
theorem letter3 {S : Type} (k : ByteArray → Option S) : F_men_Letter 3 k = k (mkB [66]) := by kernel_rfl
theorem letter4 {S : Type} (k : ByteArray → Option S) : F_men_Letter 4 k = k (mkB [82]) := by kernel_rfl
theorem letter5 {S : Type} (k : ByteArray → Option S) : F_men_Letter 5 k = k (mkB [81]) := by kernel_rfl
theorem letter2' {S : Type} (k : ByteArray → Option S) : F_men_Letter (-2) k = k (mkB [110]) := by kernel_rfl
theorem letter3' {S : Type} (k : ByteArray → Option S) : F_men_Letter (-3) k = k (mkB [98]) := by kernel_rfl
theorem letter4' {S : Type} (k : ByteArray → Option S) : F_men_Letter (-4) k = k (mkB [114]) := by kernel_rfl
theorem letter5' {S : Type} (k : ByteArray → Option S) : F_men_Letter (-5) k = k (mkB [113]) := by kernel_rfl
theorem low0 {S : Type} (k : ByteArray → Option S) : F_strings_ToLower (mkB []) k = k (mkB []) := by kernel_rfl
theorem low2 {S : Type} (k : ByteArray → Option S) : F_strings_ToLower (mkB [78]) k = k (mkB [110]) := by kernel_rfl
theorem low3 {S : Type} (k : ByteArray → Option S) : F_strings_ToLower (mkB [66]) k = k (mkB [98]) := by kernel_rfl
theorem low4 {S : Type} (k : ByteArray → Option S) : F_strings_ToLower (mkB [82]) k = k (mkB [114]) := by kernel_rfl
theorem low5 {S : Type} (k : ByteArray → Option S) : F_strings_ToLower (mkB [81]) k = k (mkB [113]) := by kernel_rfl
theorem ref2 {S : Type} (k : ByteArray → Option S) : F_ref02_Letter (-2) k = k (mkB [110]) := by kernel_rfl
theorem ref3 {S : Type} (k : ByteArray → Option S) : F_ref02_Letter (-3) k = k (mkB [98]) := by kernel_rfl
theorem ref4 {S : Type} (k : ByteArray → Option S) : F_ref02_Letter (-4) k = k (mkB [114]) := by kernel_rfl
theorem ref5 {S : Type} (k : ByteArray → Option S) : F_ref02_Letter (-5) k = k (mkB [113]) := by kernel_rfl

/-! ### texts -/
def validM (m : MoveD) : Bool := rightS m.1 && (rightS m.2.1 && (m.2.2.1 == 0 || (decide (2 ≤ m.2.2.1) && decide (m.2.2.1 ≤ 5))))
def textL (m : MoveD) : List UInt8 := nameL m.1 ++ nameL m.2.1 ++ smallL m.2.2.1
def textM (m : MoveD) : ByteArray := bif validM m then mkB (textL m) else mkB []
theorem empty_mk : ByteArray.mk (List.toArray []) = mkB [] := rfl
theorem nameL_len (s : Int) : (nameL s).length = 2 := rfl
theorem big1 (a b : Int) : decide ((mkB (nameL a)).size + (mkB (nameL b)).size ≤ 9223372036854775807) = true := by rw [mkB_size, mkB_size]; rfl
theorem big2 (a b : Int) {l : List UInt8} (h : l.length ≤ 1) : decide ((mkB (nameL a) ++ mkB (nameL b)).size + (mkB l).size ≤ 9223372036854775807) = true := by
  rw [mkB_append, mkB_size, mkB_size, List.length_append, nameL_len, nameL_len]; simp; omega

theorem move_Text_eq (m : MoveD) {S : Type} (k : ByteArray → Option S) : F_move_Text m k = k (textM m) := by
  obtain ⟨s, t, p, ⟨⟩⟩ := m
  unfold F_move_Text R_move_Text textM validM textL
  simp only [square_Right_eq, empty_mk]
  cases h1 : rightS s with
  | false => rfl
  | true =>
    cases h2 : rightS t with
    | false => rfl
    | true =>
      have b1 := rightS_iff.1 h1
      have b2 := rightS_iff.1 h2
      simp only [square_Name_eq b1, square_Name_eq b2, big1, cond_true, Bool.not_true, cond_false]
      by_cases hv : p = 0 ∨ 2 ≤ p ∧ p ≤ 5
      · have hb := fun (l : List UInt8) h => big2 s t (l := l) h
        rcases promo_cases hv with rfl | rfl | rfl | rfl | rfl
        · simp only [letter0, low0, hb [] (by decide), mkB_append, show ((0 : Int) != 0) = false from rfl, cond_false, cond_true]; rfl
        · simp only [letter2, low2, hb [110] (by decide), mkB_append, show ((2 : Int) != 0) = true from rfl, show decide ((2 : Int) < 2) = false from rfl, show decide ((2 : Int) > 5) = false from rfl, cond_false, cond_true]; rfl
        · simp only [letter3, low3, hb [98] (by decide), mkB_append, show ((3 : Int) != 0) = true from rfl, show decide ((3 : Int) < 2) = false from rfl, show decide ((3 : Int) > 5) = false from rfl, cond_false, cond_true]; rfl
        · simp only [letter4, low4, hb [114] (by decide), mkB_append, show ((4 : Int) != 0) = true from rfl, show decide ((4 : Int) < 2) = false from rfl, show decide ((4 : Int) > 5) = false from rfl, cond_false, cond_true]; rfl
        · simp only [letter5, low5, hb [113] (by decide), mkB_append, show ((5 : Int) != 0) = true from rfl, show decide ((5 : Int) < 2) = false from rfl, show decide ((5 : Int) > 5) = false from rfl, cond_false, cond_true]; rfl
      · have hp : (p == 0 || (decide (2 ≤ p) && decide (p ≤ 5))) = false := by
          cases hq : (p == 0 || (decide (2 ≤ p) && decide (p ≤ 5))) with
          | false => rfl
          | true => simp at hq; exact (hv hq).elim
        have hne : (p != 0) = true := by simp; omega
        rw [hne, hp]
        by_cases h5 : p < 2
        · rw [show decide (p < 2) = true by simpa using h5]; rfl
        · rw [show decide (p < 2) = false by simpa using h5, show decide (p > 5) = true by simp; omega]; rfl

theorem ref09_Text_eq (m : MoveD) {S : Type} (k : ByteArray → Option S) : F_ref09_Text m k = k (textM m) := by
  obtain ⟨s, t, p, ⟨⟩⟩ := m
  unfold F_ref09_Text R_ref09_Text textM validM textL
  simp only [ref01_Right_eq, empty_mk]
  cases h1 : rightS s with
  | false => rfl
  | true =>
    cases h2 : rightS t with
    | false => rfl
    | true =>
      have b1 := rightS_iff.1 h1
      have b2 := rightS_iff.1 h2
      simp only [ref01_Name_eq b1, ref01_Name_eq b2, big1, cond_true, Bool.not_true, cond_false]
      by_cases hv : p = 0 ∨ 2 ≤ p ∧ p ≤ 5
      · have hb := fun (l : List UInt8) h => big2 s t (l := l) h
        have e2 : ∀ {S : Type} (k : ByteArray → Option S), F_ref02_Letter (IntKind.wrap .i64 (0 - 2)) k = k (mkB [110]) := fun k => ref2 k
        have e3 : ∀ {S : Type} (k : ByteArray → Option S), F_ref02_Letter (IntKind.wrap .i64 (0 - 3)) k = k (mkB [98]) := fun k => ref3 k
        have e4 : ∀ {S : Type} (k : ByteArray → Option S), F_ref02_Letter (IntKind.wrap .i64 (0 - 4)) k = k (mkB [114]) := fun k => ref4 k
        have e5 : ∀ {S : Type} (k : ByteArray → Option S), F_ref02_Letter (IntKind.wrap .i64 (0 - 5)) k = k (mkB [113]) := fun k => ref5 k
        rcases promo_cases hv with rfl | rfl | rfl | rfl | rfl
        · rw [mkB_append]; rfl
        · simp only [e2, hb [110] (by decide), mkB_append, show decide ((2 : Int) < 0) = false from rfl, show ((2 : Int) == 1) = false from rfl, show decide ((2 : Int) > 5) = false from rfl, show decide ((2 : Int) > 0) = true from rfl, cond_false, cond_true]; rfl
        · simp only [e3, hb [98] (by decide), mkB_append, show decide ((3 : Int) < 0) = false from rfl, show ((3 : Int) == 1) = false from rfl, show decide ((3 : Int) > 5) = false from rfl, show decide ((3 : Int) > 0) = true from rfl, cond_false, cond_true]; rfl
        · simp only [e4, hb [114] (by decide), mkB_append, show decide ((4 : Int) < 0) = false from rfl, show ((4 : Int) == 1) = false from rfl, show decide ((4 : Int) > 5) = false from rfl, show decide ((4 : Int) > 0) = true from rfl, cond_false, cond_true]; rfl
        · simp only [e5, hb [113] (by decide), mkB_append, show decide ((5 : Int) < 0) = false from rfl, show ((5 : Int) == 1) = false from rfl, show decide ((5 : Int) > 5) = false from rfl, show decide ((5 : Int) > 0) = true from rfl, cond_false, cond_true]; rfl
      · have hp : (p == 0 || (decide (2 ≤ p) && decide (p ≤ 5))) = false := by
          cases hq : (p == 0 || (decide (2 ≤ p) && decide (p ≤ 5))) with
          | false => rfl
          | true => simp at hq; exact (hv hq).elim
        rw [hp]
        by_cases h5 : p < 0
        · rw [show decide (p < 0) = true by simpa using h5]; rfl
        · rw [show decide (p < 0) = false by simpa using h5]
          by_cases h6 : p = 1
          · subst h6; rfl
          · rw [show (p == 1) = false by simpa using h6, show decide (p > 5) = true by simp; omega]; rfl

end Go.Proofs.YteeiccpbiniljaaGreatDoor
