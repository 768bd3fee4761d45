/- Plain laws: a move is read from its text. -/
import Derived.Test.YteeiccpbiniljaaGreatDoorX2
set_option linter.all false
set_option maxRecDepth 100000
namespace Go.Proofs.YteeiccpbiniljaaGreatDoor
open Go Am

/-! ### the parts -/
def partS (P : List (List UInt8)) (n : Nat) (e : List UInt8) : List (List UInt8) := P.set (n / 2) (P.getD (n / 2) [] ++ e)
/-- The runes of a text, two to a part. -/
def goL (l : List UInt8) : Nat → Nat → Nat → List (List UInt8) → Option (List (List UInt8))
  | 0, _, _, _ => none
  | d + 1, n, i, P => if i < l.length then (if n > 4 then none else goL l d (n + 1) (i + (Utf8.decode (mkB l) i).2) (partS P n (bts (Utf8.encode (((Utf8.decode (mkB l) i).1 : Nat) : Int))))) else some P

theorem enc_len (c : Nat) : (bts (Utf8.encode (c : Int))).length ≤ 4 := by
  unfold Utf8.encode
  generalize (if Utf8.valid (c : Int) = true then (c : Int).toNat else Utf8.runeError) = x
  simp only
  by_cases h1 : x < 128
  · rw [if_pos h1]; simp [bts]
  · rw [if_neg h1]
    by_cases h2 : x < 2048
    · rw [if_pos h2]; simp [bts]
    · rw [if_neg h2]
      by_cases h3 : x < 65536
      · rw [if_pos h3]; simp [bts]
      · rw [if_neg h3]; simp [bts]

theorem getD_map (P : List (List UInt8)) (j : Nat) : (P.map mkB).getD j ByteArray.empty = mkB (P.getD j []) := by
  rw [List.getD_eq_getElem?_getD, List.getElem?_map, List.getD_eq_getElem?_getD]
  cases P[j]? <;> rfl

theorem partS_len (P : List (List UInt8)) (n : Nat) (e : List UInt8) : (partS P n e).length = P.length := by simp [partS]
theorem partS_at {P : List (List UInt8)} {n : Nat} (hn : n / 2 < P.length) (e : List UInt8) (j : Nat) : (partS P n e).getD j [] = if n / 2 = j then P.getD j [] ++ e else P.getD j [] := by
  unfold partS
  simp only [List.getD_eq_getElem?_getD, List.getElem?_set]
  split
  · rename_i h; subst h; simp [hn]
  · rfl

def room (P : List (List UInt8)) (n : Nat) : Prop := P.length = 3 ∧ ∀ j, (P.getD j []).length ≤ 4 * n
theorem room_step {P : List (List UInt8)} {n : Nat} (h : room P n) (hn : n ≤ 4) {e : List UInt8} (he : e.length ≤ 4) : room (partS P n e) (n + 1) := by
  refine ⟨by rw [partS_len]; exact h.1, fun j => ?_⟩
  rw [partS_at (by rw [h.1]; omega)]
  have := h.2 j
  split
  · rw [List.length_append]; omega
  · omega

theorem N_move_Parse_0_eq (l : List UInt8) (hl : l.length ≤ 1000000) : ∀ (d n i f : Nat) (P : List (List UInt8)), l.length < i + d → d ≤ f → n ≤ 5 → room P n → ∀ {S : Type} (kx : MoveD → List ByteArray → Option S) (kr : Bool → MoveD → Option S),
    N_move_Parse_0 f (n : Int) (0, 0, 0, ()) (P.map mkB) (mkB l) i kx kr = match goL l d n i P with | some Q => kx (0, 0, 0, ()) (Q.map mkB) | none => if d = 0 then N_move_Parse_0 f (n : Int) (0, 0, 0, ()) (P.map mkB) (mkB l) i kx kr else kr false (0, 0, 0, ())
  | 0, n, i, f, P, hi, hf, hn, hr, S, kx, kr => by simp [goL]
  | d + 1, n, i, f + 1, P, hi, hf, hn, hr, S, kx, kr => by
    rw [N_move_Parse_0_succ]
    unfold R_move_Parse_0 goL
    rw [mkB_size]
    by_cases h1 : i < l.length
    · rw [if_pos h1, show decide (i < l.length) = true by simpa using h1]
      by_cases h2 : n > 4
      · rw [if_pos h2, show decide ((n : Int) > 4) = true by simp; omega]
        simp
      · rw [if_neg h2, show decide ((n : Int) > 4) = false by simp; omega]
        have hd : IntKind.wrap .i64 (Int.tdiv (n : Int) 2) = ((n / 2 : Nat) : Int) := by
          rw [Int.tdiv_eq_ediv_of_nonneg (by omega), w64 (by omega)]; rfl
        have hw : 1 ≤ (Utf8.decode (mkB l) i).2 := by
          rcases dec_mk h1 with ⟨_, h⟩ | ⟨_, _, h⟩
          · rw [h]; exact Nat.le_refl _
          · exact h
        have he := enc_len (Utf8.decode (mkB l) i).1
        have hr2 := room_step hr (by omega) he
        have e1 : IntKind.wrap .i64 ((n : Int) + 1) = ((n + 1 : Nat) : Int) := by rw [w64 (by omega)]; rfl
        have hbig : decide ((mkB (P.getD (n / 2) [])).size + (Utf8.encode (((Utf8.decode (mkB l) i).1 : Nat) : Int)).size ≤ 9223372036854775807) = true := by
          have := hr.2 (n / 2)
          rw [mkB_size, ← bts_len, decide_eq_true_eq]; omega
        have hset : List.set (P.map mkB) (n / 2) (mkB (P.getD (n / 2) []) ++ Utf8.encode (((Utf8.decode (mkB l) i).1 : Nat) : Int)) = (partS P n (bts (Utf8.encode (((Utf8.decode (mkB l) i).1 : Nat) : Int)))).map mkB := by
          unfold partS
          rw [List.map_set, ← mkB_append, mkB_bts]
        have ih := N_move_Parse_0_eq l hl d (n + 1) (i + (Utf8.decode (mkB l) i).2) f _ (by omega) (by omega) (by omega) hr2 kx kr
        simp only [cond_true, cond_false, hd, Int.toNat_natCast, getD_map, hbig, hset, e1, inB_true (j := ((n / 2 : Nat) : Int)) (n := 3) (by omega)]
        rw [ih]
        cases hg : goL l d (n + 1) (i + (Utf8.decode (mkB l) i).2) (partS P n (bts (Utf8.encode (((Utf8.decode (mkB l) i).1 : Nat) : Int)))) with
        | some Q => rfl
        | none =>
          by_cases h0 : d = 0
          · subst h0
            exfalso
            omega
          · simp [h0]
    · rw [if_neg h1, show decide (i < l.length) = false by simpa using h1]
      simp

/-! ### sound, complete -/
def fillL (P : List (List UInt8)) (n : Nat) : List UInt8 → List (List UInt8)
  | [] => P
  | b :: l => fillL (partS P n [b]) (n + 1) l

def plain (l : List UInt8) : Prop := ∀ b ∈ l, b.toNat < 128

theorem goL_mono (l : List UInt8) : ∀ (d n i : Nat) (P Q : List (List UInt8)), n ≤ 5 → P.length = 3 → goL l d n i P = some Q → ∀ j, ∀ b ∈ P.getD j [], b ∈ Q.getD j []
  | 0, n, i, P, Q, _, _, h, j, b, hb => by cases h
  | d + 1, n, i, P, Q, hn, hP, h, j, b, hb => by
    unfold goL at h
    by_cases h1 : i < l.length
    · rw [if_pos h1] at h
      by_cases h2 : n > 4
      · rw [if_pos h2] at h; cases h
      · rw [if_neg h2] at h
        refine goL_mono l d _ _ _ Q (by omega) (by rw [partS_len]; exact hP) h j b ?_
        rw [partS_at (by omega)]
        split
        · exact List.mem_append_left _ hb
        · exact hb
    · rw [if_neg h1] at h
      cases h
      exact hb

theorem goL_sound (l : List UInt8) : ∀ (d n i : Nat) (P Q : List (List UInt8)), n ≤ 5 → P.length = 3 → goL l d n i P = some Q → (∀ j, plain (Q.getD j [])) → n + (l.drop i).length ≤ 5 ∧ Q = fillL P n (l.drop i)
  | 0, n, i, P, Q, _, _, h, _ => by cases h
  | d + 1, n, i, P, Q, hn, hP, h, hq => by
    unfold goL at h
    by_cases h1 : i < l.length
    · rw [if_pos h1] at h
      by_cases h2 : n > 4
      · rw [if_pos h2] at h; cases h
      · rw [if_neg h2] at h
        have hmem : ∀ b ∈ bts (Utf8.encode (((Utf8.decode (mkB l) i).1 : Nat) : Int)), b.toNat < 128 := by
          intro b hb
          refine hq (n / 2) b (goL_mono l d _ _ _ Q (by omega) (by rw [partS_len]; exact hP) h (n / 2) b ?_)
          rw [partS_at (by omega), if_pos rfl]
          exact List.mem_append_right _ hb
        rcases dec_mk h1 with ⟨g1, g2⟩ | ⟨g1, g2, g3⟩
        · rw [g2] at h
          simp only [enc_low g1, UInt8.ofNat_toNat] at h
          have ih := goL_sound l d _ _ _ Q (by omega) (by rw [partS_len]; exact hP) h hq
          rw [List.drop_eq_getElem_cons h1]
          refine ⟨by simp only [List.length_cons]; omega, ih.2⟩
        · exfalso
          obtain ⟨b, r, e1, e2⟩ := enc_high g2
          have := hmem b (by rw [e1]; simp)
          omega
    · rw [if_neg h1] at h
      cases h
      rw [List.drop_eq_nil_of_le (by omega)]
      exact ⟨by simpa using hn, rfl⟩

theorem goL_complete (l : List UInt8) (hp : plain l) : ∀ (d n i : Nat) (P : List (List UInt8)), n + (l.drop i).length ≤ 5 → (l.drop i).length < d → goL l d n i P = some (fillL P n (l.drop i))
  | d + 1, n, i, P, hn, hd => by
    unfold goL
    by_cases h1 : i < l.length
    · have hc := List.drop_eq_getElem_cons h1
      rw [hc] at hn hd ⊢
      simp only [List.length_cons] at hn hd
      rw [if_pos h1, if_neg (by omega)]
      rcases dec_mk h1 with ⟨g1, g2⟩ | ⟨g1, _⟩
      · rw [g2]
        simp only [enc_low g1, UInt8.ofNat_toNat]
        exact goL_complete l hp d (n + 1) (i + 1) _ (by omega) (by omega)
      · have := hp _ (List.getElem_mem h1)
        omega
    · rw [if_neg h1, List.drop_eq_nil_of_le (by omega)]
      rfl

end Go.Proofs.YteeiccpbiniljaaGreatDoor
