/- Plain laws: what is deleted; where men jump. -/
import Derived.Test.YtaldkopkfdgngaaGreatDoorL20
set_option linter.all false
set_option maxRecDepth 100000
namespace Go.Proofs.YtaldkopkfdgngaaGreatDoor
open Go Am

theorem N_IndexFunc_eq {p : PosD} (hb : Bd p.1) (l : List Int) (hl : l.length ≤ 1000) : ∀ (d i n : Nat), i + d = l.length → d < n → ∀ {S : Type} (kx : PosD → List Int → Option S) (kr : Int → PosD → List Int → Option S),
    N_slices_IndexFunc_0 n ((l.length : Nat) : Int) (i : Int) p l kx kr = (match (l.drop i).findIdx? (fun t => !openP p t) with | some j => kr ((i + j : Nat) : Int) p l | none => kx p l)
  | 0, i, n + 1, hi, hn, S, kx, kr => by
    rw [N_slices_IndexFunc_0_succ]
    unfold R_slices_IndexFunc_0
    rw [show decide ((i : Int) < ((l.length : Nat) : Int)) = false by simp; omega, List.drop_eq_nil_of_le (by omega)]
    rfl
  | d + 1, i, n + 1, hi, hn, S, kx, kr => by
    obtain ⟨e1, e2, e3⟩ := scan l.length (by omega) hi
    rw [N_slices_IndexFunc_0_succ]
    unfold R_slices_IndexFunc_0
    simp only [e1, e2, e3, cond_true, Int.toNat_natCast, jumps_1_eq hb, N_IndexFunc_eq hb l hl d (i + 1) n (by omega) (by omega)]
    rw [drop_cons (b := l) (i := i) (by omega), List.findIdx?_cons]
    cases openP p (l.getD i 0) with
    | false => simp
    | true =>
      simp only [Bool.not_true, cond_false]
      cases (List.drop (i + 1) l).findIdx? (fun t => !openP p t) with
      | none => simp
      | some j => simp; congr 1; omega

theorem N_DeleteFunc_eq {p : PosD} (hb : Bd p.1) : ∀ (d i j n : Nat) (cur : List Int), cur.length ≤ 1000 → j + d = cur.length → i ≤ j → d < n →
    ∃ (cur' : List Int) (i' : Nat), i' ≤ cur'.length ∧ cur'.take i' = cur.take i ++ (cur.drop j).filter (openP p) ∧ ∀ {S : Type} (kx : Int → PosD → List Int → Option S) (kr : Option S), N_slices_DeleteFunc_0 n (i : Int) (j : Int) p cur kx kr = kx (i' : Int) p cur'
  | 0, i, j, n + 1, cur, hl, hj, hij, hn => by
    refine ⟨cur, i, by omega, ?_, ?_⟩
    · rw [List.drop_eq_nil_of_le (by omega)]; simp
    · intro S kx kr
      rw [N_slices_DeleteFunc_0_succ]
      unfold R_slices_DeleteFunc_0
      rw [show decide ((j : Int) < ((cur.length : Nat) : Int)) = false by simp; omega]
      rfl
  | d + 1, i, j, n + 1, cur, hl, hj, hij, hn => by
    obtain ⟨e1, e2, e3⟩ := scan cur.length (by omega) hj
    have e4 : IntKind.wrap .i64 ((i : Int) + 1) = ((i + 1 : Nat) : Int) := by rw [w64 (by omega)]; rfl
    have e5 : inB (i : Int) cur.length = true := inB_true (by omega)
    cases ho : openP p (cur.getD j 0) with
    | true =>
      obtain ⟨cur', i', h1, h2, h3⟩ := N_DeleteFunc_eq hb d (i + 1) (j + 1) n (cur.set i (cur.getD j 0)) (by simpa using hl) (by simp; omega) (by omega) (by omega)
      refine ⟨cur', i', h1, ?_, ?_⟩
      · rw [h2, drop_cons (b := cur) (i := j) (by omega), List.filter_cons_of_pos (by exact ho)]
        rw [List.drop_set_of_lt (by omega)]
        have : (cur.set i (cur.getD j 0)).take (i + 1) = cur.take i ++ [cur.getD j 0] := by
          rw [List.take_succ, List.take_set, List.getElem?_set]
          simp only [if_pos]
          rw [List.set_eq_of_length_le (by rw [List.length_take]; omega), if_pos (by omega)]
          rfl
        rw [this]
        simp
      · intro S kx kr
        rw [N_slices_DeleteFunc_0_succ]
        unfold R_slices_DeleteFunc_0
        simp only [e1, e2, e3, e4, e5, cond_true, Int.toNat_natCast, jumps_1_eq hb, ho, Bool.not_true, Bool.not_false, h3]
    | false =>
      obtain ⟨cur', i', h1, h2, h3⟩ := N_DeleteFunc_eq hb d i (j + 1) n cur hl (by omega) (by omega) (by omega)
      refine ⟨cur', i', h1, ?_, ?_⟩
      · rw [h2, drop_cons (b := cur) (i := j) (by omega), List.filter_cons_of_neg (by rw [ho]; simp)]
      · intro S kx kr
        rw [N_slices_DeleteFunc_0_succ]
        unfold R_slices_DeleteFunc_0
        simp only [e1, e2, e3, e4, e5, cond_true, cond_false, Int.toNat_natCast, jumps_1_eq hb, ho, Bool.not_true, Bool.not_false, h3]

theorem DeleteFunc_eq {p : PosD} (hb : Bd p.1) (l : List Int) (hl : l.length ≤ 1000) {S : Type} (k : PosD → List Int → Option S) : F_slices_DeleteFunc p l k = k p (l.filter (openP p)) := by
  unfold F_slices_DeleteFunc R_slices_DeleteFunc F_slices_IndexFunc R_slices_IndexFunc
  rw [L_slices_IndexFunc_0_N, show (0 : Int) = ((0 : Nat) : Int) from rfl, N_IndexFunc_eq hb l hl l.length 0 _ (by omega) (by omega), List.drop_zero]
  cases hf : l.findIdx? (fun t => !openP p t) with
  | none =>
    have := List.findIdx?_eq_none_iff.1 hf
    rw [List.filter_eq_self.2 (fun x hx => by simpa using this x hx)]
    rfl
  | some j =>
    obtain ⟨hj, h1, h2⟩ := List.findIdx?_eq_some_iff_getElem.1 hf
    have hlj : l.drop j = l[j] :: l.drop (j + 1) := List.drop_eq_getElem_cons hj
    obtain ⟨cur', i', h3, h4, h5⟩ := N_DeleteFunc_eq hb (l.length - (j + 1)) j (j + 1) (100 + l.length) l hl (by omega) (by omega) (by omega)
    have e1 : IntKind.wrap .i64 (((j : Nat) : Int) + 1) = ((j + 1 : Nat) : Int) := by rw [w64 (by omega)]; omega
    have e2 : (((j : Nat) : Int) == -1) = false := by
      cases hq : (((j : Nat) : Int) == -1) with
      | false => rfl
      | true => have := eq_of_beq hq; omega
    have hfil : l.filter (openP p) = l.take j ++ (l.drop (j + 1)).filter (openP p) := by
      conv => lhs; rw [← List.take_append_drop j l, List.filter_append, hlj]
      rw [List.filter_cons_of_neg (by simpa using h1), List.filter_eq_self.2]
      intro x hx
      obtain ⟨i, hi, rfl⟩ := List.mem_iff_getElem.1 hx
      rw [List.length_take] at hi
      have := h2 i (by omega)
      simpa using this
    simp only [Nat.zero_add, e2, cond_false, e1]
    rw [L_slices_DeleteFunc_0_N]
    refine (h5 _ _).trans ?_
    have c1 : (decide (((0 : Nat) : Int) ≤ ((i' : Nat) : Int)) && decide (((i' : Nat) : Int) ≤ ((cur'.length : Nat) : Int))) = true := by simp; omega
    have c2 : (decide (((0 : Nat) : Int) ≤ ((i' : Nat) : Int)) && decide (((i' : Nat) : Int) ≤ (((cur'.take i' ++ List.replicate (cur'.length - i') ((0 : Nat) : Int)).length : Nat) : Int))) = true := by simp; omega
    have c3 : (cur'.take i' ++ List.replicate (cur'.length - i') ((0 : Nat) : Int)).take i' = cur'.take i' := by
      rw [List.take_append_of_le_length (by rw [List.length_take]; omega), List.take_take, Nat.min_self]
    simp only [Int.toNat_natCast]
    rw [c1, c2, c3, h4, hfil]
    rfl

theorem strikesL_len (b : List Int) (s : Int) : (strikesL b s).length ≤ 512 := by
  have h8 := stepsM_len8 (b.getD s.toNat 0)
  have hl := alongS_len b s (mostM (b.getD s.toNat 0)) (mostM_le _) (stepsM (b.getD s.toNat 0))
  unfold strikesL
  cases rightS s && rightB b && !(b.getD s.toNat 0 == 0) with
  | true => simp only [cond_true]; rw [(sort_perm _).length_eq]; omega
  | false => simp
def jumpsL (p : PosD) (s : Int) : List Int := (strikesL p.1 s).filter (openP p)
theorem jumps_eq {p : PosD} (hb : Bd p.1) (s : Int) {S : Type} (k : List Int → Option S) : F_gen_Gen_jumps p s k = k (jumpsL p s) := by
  have := strikesL_len p.1 s
  unfold F_gen_Gen_jumps R_gen_Gen_jumps jumpsL
  simp only [Strikes_eq hb, DeleteFunc_eq hb _ (show (strikesL p.1 s).length ≤ 1000 by omega)]

end Go.Proofs.YtaldkopkfdgngaaGreatDoor

