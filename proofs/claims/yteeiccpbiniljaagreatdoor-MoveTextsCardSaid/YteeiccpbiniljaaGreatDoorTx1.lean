/- Plain laws: texts, of no program. -/
import Derived.Test.YteeiccpbiniljaaGreatDoorPl1
import Derived.Laws.RangeString
import Derived.Laws.RangeAny
set_option linter.all false
namespace Am
open Go

/-- The bytes of a text. -/
def bts (s : ByteArray) : List UInt8 := s.data.toList
theorem bts_mk (l : List UInt8) : bts ⟨l.toArray⟩ = l := by simp [bts]
theorem bts_ext {a b : ByteArray} (h : bts a = bts b) : a = b := by
  cases a; cases b
  simp only [bts] at h
  congr
  exact Array.toList_inj.1 h
theorem bts_len (s : ByteArray) : (bts s).length = s.size := by unfold bts; rw [Array.length_toList]; rfl
theorem bts_append (a b : ByteArray) : bts (a ++ b) = bts a ++ bts b := by unfold bts; first | rw [ByteArray.data_append, Array.toList_append] | rw [ByteArray.append_data, Array.toList_append] | simp only [ByteArray.data_append, Array.toList_append]
theorem bts_empty : bts ⟨#[]⟩ = [] := rfl

theorem enc_low {c : Nat} (h : c < 128) : bts (Utf8.encode (c : Int)) = [UInt8.ofNat c] := by
  unfold Utf8.encode
  have hv : Utf8.valid (c : Int) = true := by simp only [Utf8.valid, Bool.or_eq_true, Bool.and_eq_true, decide_eq_true_eq]; omega
  simp only [hv, if_true, Int.toNat_natCast]
  rw [if_pos (by omega)]
  rfl
theorem enc_high {c : Nat} (h : 128 ≤ c) : ∃ b l, bts (Utf8.encode (c : Int)) = b :: l ∧ 128 ≤ b.toNat := by
  unfold Utf8.encode
  cases hv : Utf8.valid (c : Int) with
  | false =>
    simp only [Bool.false_eq_true, if_false]
    exact ⟨239, [191, 189], by decide, by decide⟩
  | true =>
    have hc : c ≤ 1114111 := by simp only [Utf8.valid, Bool.or_eq_true, Bool.and_eq_true, decide_eq_true_eq] at hv; omega
    simp only [if_true, Int.toNat_natCast]
    rw [if_neg (by omega)]
    by_cases h1 : c < 2048
    · rw [if_pos h1]
      exact ⟨_, _, rfl, by rw [UInt8.toNat_ofNat']; omega⟩
    · rw [if_neg h1]
      by_cases h2 : c < 65536
      · rw [if_pos h2]
        exact ⟨_, _, rfl, by rw [UInt8.toNat_ofNat']; omega⟩
      · rw [if_neg h2]
        exact ⟨_, _, rfl, by rw [UInt8.toNat_ofNat']; omega⟩

theorem drop_bts {s : ByteArray} {i : Nat} (h : i < s.size) : (bts s).drop i = s[i]'h :: (bts s).drop (i + 1) := by
  rw [List.drop_eq_getElem_cons (by rw [bts_len]; exact h)]
  rfl

/-- What stands at a place of a text: a plain byte, or a rune from 128 on. -/
theorem dec_cases (s : ByteArray) (i : Nat) (h : i < s.size) : ((s[i]'h).toNat < 128 ∧ Utf8.decode s i = ((s[i]'h).toNat, 1)) ∨ (128 ≤ (s[i]'h).toNat ∧ 128 ≤ (Utf8.decode s i).1 ∧ 1 ≤ (Utf8.decode s i).2) := by
  by_cases ha : (s[i]'h).toNat < 128
  · exact .inl ⟨ha, Go.decode_ascii s i h ha⟩
  · exact .inr ⟨by omega, Go.decode_high s i h (by omega)⟩

end Am
