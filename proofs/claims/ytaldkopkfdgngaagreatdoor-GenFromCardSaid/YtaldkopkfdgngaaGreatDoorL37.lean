/- Plain laws: GenFrom. -/
import Derived.Test.YtaldkopkfdgngaaGreatDoorL36
set_option linter.all false
set_option maxRecDepth 100000
namespace Go.Proofs.YtaldkopkfdgngaaGreatDoor
open Go Am

def eqM (a b : MoveD) : Bool := Ty.beq (.pair (.int .i64) (.pair (.int .i64) (.pair (.int .i64) .unit))) a b
theorem eqM_iff {a b : MoveD} : eqM a b = true ↔ a = b := beqM_iff a b

theorem drop_consM {l : List MoveD} {i : Nat} (h : i < l.length) : l.drop i = l.getD i (0, 0, 0, ()) :: l.drop (i + 1) := by
  rw [List.drop_eq_getElem_cons h, List.getD_eq_getElem?_getD, List.getElem?_eq_getElem h]; rfl

theorem N_GenFrom_0_eq (s : Int) (p : PosD) (m : MoveD) (l : List MoveD) (hl : l.length ≤ 1000000) : ∀ (d i n : Nat) (g : Bool) (out : List MoveD), i + d = l.length → d < n → out.length ≤ i → ∀ {S : Type} (kx : Int → Bool → PosD → MoveD → List MoveD → Option S) (kr : Option S),
    N_law10_GenFrom_0 n s g ((l.length : Nat) : Int) (i : Int) p m out l kx kr = kx s (g || (l.drop i).any (fun x => eqM x m)) p m (out ++ (l.drop i).filter (fun x => x.1 == s))
  | 0, i, n + 1, g, out, hi, hn, ho, S, kx, kr => by
    rw [N_law10_GenFrom_0_succ]
    unfold R_law10_GenFrom_0
    rw [show decide ((i : Int) < ((l.length : Nat) : Int)) = false by simp; omega, List.drop_eq_nil_of_le (by omega)]
    simp
  | d + 1, i, n + 1, g, out, hi, hn, ho, S, kx, kr => by
    have e1 : decide ((i : Int) < ((l.length : Nat) : Int)) = true := by simp; omega
    have e2 : inB (i : Int) l.length = true := inB_true (by omega)
    have e3 : IntKind.wrap .i64 ((i : Int) + 1) = ((i + 1 : Nat) : Int) := by rw [w64 (by omega)]; rfl
    have big : decide (out.length + [l.getD i (0, 0, 0, ())].length ≤ 34359738368) = true := by simp; omega
    have ih1 := fun g => N_GenFrom_0_eq s p m l hl d (i + 1) n g out (by omega) (by omega) (by omega) kx kr
    have ih2 := fun g => N_GenFrom_0_eq s p m l hl d (i + 1) n g (out ++ [l.getD i (0, 0, 0, ())]) (by omega) (by omega) (by simp; omega) kx kr
    rw [N_law10_GenFrom_0_succ]
    unfold R_law10_GenFrom_0
    simp only [e1, e2, e3, cond_true, Int.toNat_natCast, one_setM, big, ih1, ih2]
    rw [drop_consM (l := l) (i := i) (by omega), List.any_cons, List.filter_cons]
    rw [show Ty.beq (.pair (.int .i64) (.pair (.int .i64) (.pair (.int .i64) .unit))) (l.getD i (0, 0, 0, ())) m = eqM (l.getD i (0, 0, 0, ())) m from rfl]
    generalize l.getD i (0, 0, 0, ()) = x
    cases x.1 == s <;> cases g <;> cases eqM x m <;> simp [show out.length ≤ 34359738367 by omega]

theorem N_Index_eq (m : MoveD) (l : List MoveD) (hl : l.length ≤ 1000000) : ∀ (d i n : Nat), i + d = l.length → d < n → ∀ {S : Type} (k : Bool → Option S),
    N_slices_Index_0 n l ((l.length : Nat) : Int) (i : Int) m (k (decide ((-1 : Int) ≥ 0))) (fun z => k (decide (z ≥ 0))) = k ((l.drop i).any fun x => eqM x m)
  | 0, i, n + 1, hi, hn, S, k => by
    rw [N_slices_Index_0_succ]
    unfold R_slices_Index_0
    rw [show decide ((i : Int) < ((l.length : Nat) : Int)) = false by simp; omega, List.drop_eq_nil_of_le (by omega)]
    rfl
  | d + 1, i, n + 1, hi, hn, S, k => by
    have e1 : decide ((i : Int) < ((l.length : Nat) : Int)) = true := by simp; omega
    have e2 : inB (i : Int) l.length = true := inB_true (by omega)
    have e3 : IntKind.wrap .i64 ((i : Int) + 1) = ((i + 1 : Nat) : Int) := by rw [w64 (by omega)]; rfl
    have ih := N_Index_eq m l hl d (i + 1) n (by omega) (by omega) k
    rw [N_slices_Index_0_succ]
    unfold R_slices_Index_0
    simp only [e1, e2, e3, cond_true, Int.toNat_natCast, ih]
    rw [drop_consM (l := l) (i := i) (by omega), List.any_cons]
    rw [show Ty.beq (.pair (.int .i64) (.pair (.int .i64) (.pair (.int .i64) .unit))) m (l.getD i (0, 0, 0, ())) = eqM m (l.getD i (0, 0, 0, ())) from rfl]
    have hsym : eqM m (l.getD i (0, 0, 0, ())) = eqM (l.getD i (0, 0, 0, ())) m := by
      rw [Bool.eq_iff_iff, eqM_iff, eqM_iff]; exact eq_comm
    rw [hsym, show decide ((i : Int) ≥ 0) = true by simp]
    cases eqM (l.getD i (0, 0, 0, ())) m <;> rfl

theorem Contains_eq (m : MoveD) (l : List MoveD) (hl : l.length ≤ 1000000) {S : Type} (k : Bool → Option S) : F_slices_Contains l m k = k (l.any fun x => eqM x m) := by
  unfold F_slices_Contains R_slices_Contains F_slices_Index R_slices_Index
  rw [L_slices_Index_0_N]
  exact N_Index_eq m l hl l.length 0 _ (Nat.zero_add _) (by omega) k

theorem From_eq {p : PosD} (hb : Bd p.1) (s : Int) {S : Type} (k : List MoveD → Option S) : F_gen_Gen_From p s k = k (bif wrongP p == 0 then fromL p s else []) := by
  unfold F_gen_Gen_From R_gen_Gen_From F_gen_Gen_right R_gen_Gen_right
  simp only [pos_Wrong_eq hb]
  cases hw : wrongP p == 0 with
  | false => rfl
  | true => simp only [Bool.not_true, cond_false, cond_true, from_eq hb (wrong_turn (by simpa using hw))]

theorem Goes_eq {p : PosD} (hb : Bd p.1) (m : MoveD) {S : Type} (k : Bool → Option S) : F_gen_Gen_Goes p m k = k ((bif wrongP p == 0 then fromL p m.1 else []).any fun x => eqM x m) := by
  unfold F_gen_Gen_Goes R_gen_Gen_Goes
  rw [From_eq hb, Contains_eq]
  cases wrongP p == 0 with
  | false => simp
  | true => simp only [cond_true]; exact Nat.le_trans (fromL_len p m.1) (by omega)

theorem all_filter {p : PosD} (hb : Bd p.1) (hw : wrongP p = 0) (s : Int) : (allL p).filter (fun x => x.1 == s) = fromL p s := by
  refine order_eq ((allL_order (wrong_turn hw)).filter _) (fromL_order (wrong_turn hw) s) fun m => ?_
  rw [List.mem_filter, allL_iff hb hw, fromL_iff hb hw]
  simp
theorem all_any {p : PosD} (hb : Bd p.1) (hw : wrongP p = 0) (m : MoveD) : ((allL p).any fun x => eqM x m) = goesP p m := by
  rw [Bool.eq_iff_iff, List.any_eq_true, ← allL_iff hb hw]
  exact ⟨fun ⟨x, h1, h2⟩ => eqM_iff.1 h2 ▸ h1, fun h => ⟨m, h, eqM_iff.2 rfl⟩⟩
theorem from_any {p : PosD} (hb : Bd p.1) (hw : wrongP p = 0) (m : MoveD) : ((fromL p m.1).any fun x => eqM x m) = goesP p m := by
  rw [Bool.eq_iff_iff, List.any_eq_true]
  constructor
  · rintro ⟨x, h1, h2⟩
    have := ((fromL_iff hb hw _ x).1 h1).1
    rw [eqM_iff.1 h2] at this
    exact this
  · intro h
    exact ⟨m, (fromL_iff hb hw _ m).2 ⟨h, rfl⟩, eqM_iff.2 rfl⟩

theorem genFrom_eq {p : PosD} (hb : Bd p.1) (s : Int) (m : MoveD) {S : Type} (k : Bool → Option S) : F_law10_GenFrom p s m k = k true := by
  have hloop : ∀ (l : List MoveD), l.length ≤ 200000 → ∀ (kx : Int → Bool → PosD → MoveD → List MoveD → Option S) (kr : Option S), L_law10_GenFrom_0 s false ((l.length : Nat) : Int) 0 p m [] l kx kr = kx s (l.any fun x => eqM x m) p m (l.filter fun x => x.1 == s) := by
    intro l hl kx kr
    rw [L_law10_GenFrom_0_N]
    have h := N_GenFrom_0_eq s p m l (by omega) l.length 0 (100 + ([] : List MoveD).length + l.length) false [] (Nat.zero_add _) (by simp) (by simp) kx kr
    rw [List.drop_zero, Bool.false_or, List.nil_append] at h
    exact h
  have hA : F_gen_Gen_All p (fun z1 => L_law10_GenFrom_0 s false (((List.length z1) : Nat) : Int) 0 p m [] z1 (fun z2 z3 z4 z5 z6 => F_gen_Gen_From z4 z2 fun z7 => F_ref09_Same z7 z6 fun z8 => bif z8 then F_gen_Gen_Goes z4 z5 fun z9 => bif z9 == z3 then F_ref10_Right z4 fun z10 => bif z10 then F_ref10_Goes z4 z5 fun z11 => k (z3 == z11) else k (z3 == false) else k false else k false) Option.none) = k true := by
    rw [All_eq hb]
    have hlen : (bif wrongP p == 0 then allL p else []).length ≤ 200000 := by
      have := all_len p
      cases wrongP p == 0 <;> simp <;> omega
    rw [hloop _ hlen, From_eq hb]
    have hfl := fromL_len p s
    simp only [Goes_eq hb, ref10_Right_eq hb]
    cases hw : wrongP p == 0 with
    | false =>
      simp only [cond_false]
      rw [show ([] : List MoveD).filter (fun x => x.1 == s) = [] from rfl, ref09_Same_self _ (by simp)]
      rfl
    | true =>
      have hw' : wrongP p = 0 := by simpa using hw
      simp only [cond_true]
      rw [all_filter hb hw', ref09_Same_self _ (by omega), all_any hb hw', from_any hb hw', ref10_Goes_eq hb hw']
      cases goesP p m <;> rfl
  unfold F_law10_GenFrom R_law10_GenFrom
  refine (wakes10 _).trans ?_
  exact hA

end Go.Proofs.YtaldkopkfdgngaaGreatDoor

