/- Plain law: GenTurned. -/
import Derived.Test.YtaldkopkfdgngaaGreatDoorL38
set_option linter.all false
set_option maxRecDepth 100000
namespace Go.Proofs.YtaldkopkfdgngaaGreatDoor
open Go Am

theorem N_GenTurned_2_eq (a1 a2 : Int) (T : List MoveD) (m : MoveD) (l : List MoveD) (hl : T.length ≤ 1000000) : ∀ (d j n : Nat) (g : Bool), j + d = T.length → d < n → ∀ {S : Type} (kx : Bool → Int → Int → List MoveD → List MoveD → Option S) (kr : Option S),
    N_law10_GenTurned_2 n g a1 a2 ((T.length : Nat) : Int) (j : Int) T m l kx kr = kx (g || (T.drop j).any (fun x => eqM x m)) a1 a2 T l
  | 0, j, n + 1, g, hj, hn, S, kx, kr => by
    rw [N_law10_GenTurned_2_succ]
    unfold R_law10_GenTurned_2
    rw [show decide ((j : Int) < ((T.length : Nat) : Int)) = false by simp; omega, List.drop_eq_nil_of_le (by omega)]
    simp
  | d + 1, j, n + 1, g, hj, hn, S, kx, kr => by
    have e1 : decide ((j : Int) < ((T.length : Nat) : Int)) = true := by simp; omega
    have e2 : inB (j : Int) T.length = true := inB_true (by omega)
    have e3 : IntKind.wrap .i64 ((j : Int) + 1) = ((j + 1 : Nat) : Int) := by rw [w64 (by omega)]; rfl
    have ih := fun g => N_GenTurned_2_eq a1 a2 T m l hl d (j + 1) n g (by omega) (by omega) kx kr
    rw [N_law10_GenTurned_2_succ]
    unfold R_law10_GenTurned_2
    simp only [e1, e2, e3, cond_true, Int.toNat_natCast, ih]
    rw [drop_consM (l := T) (i := j) (by omega), List.any_cons]
    rw [show Ty.beq (.pair (.int .i64) (.pair (.int .i64) (.pair (.int .i64) .unit))) (T.getD j (0, 0, 0, ())) m = eqM (T.getD j (0, 0, 0, ())) m from rfl]
    cases g <;> cases eqM (T.getD j (0, 0, 0, ())) m <;> simp

theorem N_GenTurned_0_eq (T l : List MoveD) (hT : T.length ≤ 1000000) (hl : l.length ≤ 1000000) (hin : ∀ m ∈ l, (bXor .i64 m.1 56, bXor .i64 m.2.1 56, m.2.2) ∈ T) : ∀ (d i n : Nat), i + d = l.length → d < n → ∀ {S : Type} (kx : Option S) (kr : Option S),
    N_law10_GenTurned_0 n ((l.length : Nat) : Int) (i : Int) T l kx kr = kx
  | 0, i, n + 1, hi, hn, S, kx, kr => by
    rw [N_law10_GenTurned_0_succ]
    unfold R_law10_GenTurned_0
    rw [show decide ((i : Int) < ((l.length : Nat) : Int)) = false by simp; omega]
    rfl
  | d + 1, i, n + 1, hi, hn, S, kx, kr => by
    have e1 : decide ((i : Int) < ((l.length : Nat) : Int)) = true := by simp; omega
    have e2 : inB (i : Int) l.length = true := inB_true (by omega)
    have e3 : IntKind.wrap .i64 ((i : Int) + 1) = ((i + 1 : Nat) : Int) := by rw [w64 (by omega)]; rfl
    have hm : l.getD i (0, 0, 0, ()) ∈ l := by
      rw [List.getD_eq_getElem?_getD, List.getElem?_eq_getElem (by omega)]
      exact List.getElem_mem _
    have ih := N_GenTurned_0_eq T l hT hl hin d (i + 1) n (by omega) (by omega) kx kr
    have hmem := hin _ hm
    rw [N_law10_GenTurned_0_succ]
    unfold R_law10_GenTurned_0
    simp only [e1, e2, cond_true, Int.toNat_natCast]
    generalize l.getD i (0, 0, 0, ()) = m at hmem ⊢
    have hany : (T.any fun x => eqM x (bXor .i64 m.1 56, bXor .i64 m.2.1 56, m.2.2)) = true := List.any_eq_true.2 ⟨_, hmem, eqM_iff.2 rfl⟩
    rw [L_law10_GenTurned_2_N]
    refine (N_GenTurned_2_eq ((l.length : Nat) : Int) (i : Int) T (bXor .i64 m.1 56, bXor .i64 m.2.1 56, m.2.2) l hT T.length 0 _ false (Nat.zero_add _) (by omega) _ _).trans ?_
    rw [List.drop_zero, hany]
    simp only [Bool.or_true, Bool.not_true, cond_false, e3, ih]

theorem genTurned_eq {p : PosD} (hb : Bd p.1) {S : Type} (k : Bool → Option S) : F_law10_GenTurned p k = k true := by
  have hA : F_ref10_Right p (fun z1 => bif !z1 then k true else F_gen_New (F_gen_Gen_All p fun z2 => F_pos_Turned p fun z3 => F_gen_Gen_All z3 fun z4 => bif ((z2.length : Nat) : Int) != ((z4.length : Nat) : Int) then k false else L_law10_GenTurned_0 ((z2.length : Nat) : Int) 0 z4 z2 (k true) Option.none)) = k true := by
    rw [ref10_Right_eq hb]
    cases hw0 : wrongP p == 0 with
    | false => rfl
    | true =>
      have hw : wrongP p = 0 := by simpa using hw0
      have hmb : Mb p.1 := mb_of hb.1 (wrongB_spec (wrong_spec hw).1).1
      have hb' : Bd (tP p).1 := hmb.tB.bd
      have hw' := wrong_fl hb hw
      obtain ⟨_, hc, he, _⟩ := wrong_spec hw
      have hp := all_turned hb hw
      have hlen : (allL p).length = (allL (tP p)).length := by rw [← hp.length_eq, List.length_map]
      have h1 := all_len p
      have h2 := all_len (tP p)
      have hin : ∀ m ∈ allL p, (bXor .i64 m.1 56, bXor .i64 m.2.1 56, m.2.2) ∈ allL (tP p) := by
        intro m hm
        obtain ⟨m1, m2⟩ := goes_sq ((allL_iff hb hw m).1 hm)
        rw [xor_fl m1, xor_fl m2]
        exact hp.mem_iff.1 (List.mem_map.2 ⟨m, hm, rfl⟩)
      have hloop : L_law10_GenTurned_0 (((allL p).length : Nat) : Int) 0 (allL (tP p)) (allL p) (k true) Option.none = k true := by
        rw [L_law10_GenTurned_0_N]
        exact N_GenTurned_0_eq (allL (tP p)) (allL p) (by omega) (by omega) hin (allL p).length 0 _ (Nat.zero_add _) (by omega) (k true) Option.none
      simp only [Bool.not_true, cond_false, new_eq]
      rw [All_eq hb, hw0]
      simp only [cond_true]
      rw [pos_Turned_eq hmb (wrong_turn hw) hc he, All_eq hb', hw']
      show (bif (((allL p).length : Nat) : Int) != (((allL (tP p)).length : Nat) : Int) then k false else L_law10_GenTurned_0 (((allL p).length : Nat) : Int) 0 (allL (tP p)) (allL p) (k true) Option.none) = k true
      rw [hlen, show ((((allL (tP p)).length : Nat) : Int) != (((allL (tP p)).length : Nat) : Int)) = false by simp, cond_false, ← hlen]
      exact hloop
  unfold F_law10_GenTurned R_law10_GenTurned
  refine (wakes10 _).trans ?_
  exact hA

end Go.Proofs.YtaldkopkfdgngaaGreatDoor

