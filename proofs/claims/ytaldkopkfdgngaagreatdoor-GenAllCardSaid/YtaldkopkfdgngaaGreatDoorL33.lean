/- Plain laws: the document's answer: does a man go so; all moves. -/
import Derived.Test.YtaldkopkfdgngaaGreatDoorL32
set_option linter.all false
set_option maxRecDepth 100000
namespace Go.Proofs.YtaldkopkfdgngaaGreatDoor
open Go Am

/-- Does a man go so, in a right position? -/
def goesP (p : PosD) (m : MoveD) : Bool := formedP p m && (bif pawnP p m then pawnR p m else hitsR p.1 m.1 m.2.1 || decide (rightR p m > 0))

section
variable {p : PosD}

theorem ref10_Right_eq (hb : Bd p.1) {S : Type} (k : Bool → Option S) : F_ref10_Right p k = k (wrongP p == 0) := by
  unfold F_ref10_Right R_ref10_Right
  rw [ref08_Wrong_eq hb]

def promosL (f t : Int) : Nat → List MoveD
  | 0 => []
  | d + 1 => (f, t, (d : Int), ()) :: promosL f t d
theorem promos_len (f t : Int) : ∀ d, (promosL f t d).length = d
  | 0 => rfl
  | d + 1 => by simp [promosL, promos_len f t d]

theorem one_setM (x : MoveD) : List.set (List.replicate 1 ((0, 0, 0, ()) : MoveD)) 0 x = [x] := rfl

theorem N_ref10_All_4_eq (hb : Bd p.1) (hw : wrongP p = 0) {f t : Int} (hf : 0 ≤ f ∧ f < 64) (ht : 0 ≤ t ∧ t < 64) : ∀ (d n : Nat) (out : List MoveD), d ≤ 6 → d < n → out.length + d ≤ 1000000 → ∀ {S : Type} (kx : Int → Int → PosD → List MoveD → List Bool → Option S) (kr : Option S),
    N_ref10_All_4 n f t ((d : Int) - 1) p out (struckL p.1 f) kx kr = kx f t p (out ++ (promosL f t d).filter (goesP p)) (struckL p.1 f)
  | 0, n + 1, out, hd, hn, ho, S, kx, kr => by
    rw [N_ref10_All_4_succ]
    unfold R_ref10_All_4
    rw [show decide ((((0 : Nat) : Int) - 1) ≥ 0) = false from rfl]
    simp [promosL]
  | d + 1, n + 1, out, hd, hn, ho, S, kx, kr => by
    have htn := wrong_turn hw
    have e0 : (((d + 1 : Nat) : Int) - 1) = (d : Int) := by omega
    have e1 : IntKind.wrap .i64 ((d : Int) - 1) = (d : Int) - 1 := w64 (by omega)
    have ih1 := N_ref10_All_4_eq hb hw hf ht d n out (by omega) (by omega) (by omega) kx kr
    have ih2 := N_ref10_All_4_eq hb hw hf ht d n (out ++ [(f, t, (d : Int), ())]) (by omega) (by omega) (by simp; omega) kx kr
    have big : decide (out.length + [((f, t, (d : Int), ()) : MoveD)].length ≤ 34359738368) = true := by simp; omega
    have i1 : inB t 64 = true := inB_true ht
    rw [N_ref10_All_4_succ, e0]
    unfold R_ref10_All_4
    rw [show decide ((d : Int) ≥ 0) = true by simp]
    simp only [cond_true, one_setM, e1, ih1, ih2, big, i1, ref09_Formed_eq hb htn]
    rw [show promosL f t (d + 1) = (f, t, (d : Int), ()) :: promosL f t d from rfl, List.filter_cons,
      show goesP p (f, t, (d : Int), ()) = (formedP p (f, t, (d : Int), ()) && (bif pawnP p (f, t, (d : Int), ()) then pawnR p (f, t, (d : Int), ()) else hitsR p.1 f t || decide (rightR p (f, t, (d : Int), ()) > 0))) from rfl]
    cases hfm : formedP p (f, t, (d : Int), ()) with
    | false => simp
    | true =>
      have h := formed_spec hb hw hfm
      simp only [ref09_Pawn_eq hf, ref10_pawn_eq h.toSq, ref09_Right_eq (m := (f, t, (d : Int), ())) (wrong_spec hw).2.1 hf, struckL_at p.1 f ht]
      rw [show pawnP p ((f, t, (d : Int), ()) : MoveD) = (kindM (p.1.getD f.toNat 0) == 1) from rfl]
      cases kindM (p.1.getD f.toNat 0) == 1 <;> cases pawnR p (f, t, (d : Int), ()) <;> cases hitsR p.1 f t <;> cases decide (rightR p (f, t, (d : Int), ()) > 0) <;> simp [show out.length ≤ 34359738367 by omega]

def refTo (p : PosD) (f : Int) (i d : Nat) : List MoveD := (List.range' i d).flatMap fun (t : Nat) => (promosL f (t : Int) 6).filter (goesP p)
theorem refTo_len (p : PosD) (f : Int) : ∀ (d i : Nat), (refTo p f i d).length ≤ 6 * d
  | 0, i => by simp [refTo]
  | d + 1, i => by
    have h1 := refTo_len p f d (i + 1)
    have h2 := List.length_filter_le (goesP p) (promosL f (i : Int) 6)
    rw [promos_len] at h2
    unfold refTo at h1 ⊢
    rw [List.range'_succ, List.flatMap_cons, List.length_append]
    omega

theorem N_ref10_All_2_eq (hb : Bd p.1) (hw : wrongP p = 0) {f : Int} (hf : 0 ≤ f ∧ f < 64) : ∀ (d i n : Nat) (out : List MoveD), i + d = 64 → d < n → out.length + 6 * d ≤ 100000 → ∀ {S : Type} (kx : Int → PosD → List MoveD → Option S) (kr : Option S),
    N_ref10_All_2 n f (i : Int) p out (struckL p.1 f) kx kr = kx f p (out ++ refTo p f i d)
  | 0, i, n + 1, out, hi, hn, ho, S, kx, kr => by
    obtain rfl : i = 64 := by omega
    rw [N_ref10_All_2_succ]
    unfold R_ref10_All_2
    simp [refTo]
  | d + 1, i, n + 1, out, hi, hn, ho, S, kx, kr => by
    obtain ⟨e1, e2, e3⟩ := scan 64 (by omega) hi
    have hin : ∀ (kx : Int → Int → PosD → List MoveD → List Bool → Option S) (kr : Option S), L_ref10_All_4 f (i : Int) 5 p out (struckL p.1 f) kx kr = kx f (i : Int) p (out ++ (promosL f (i : Int) 6).filter (goesP p)) (struckL p.1 f) := by
      intro kx kr
      rw [L_ref10_All_4_N]
      exact N_ref10_All_4_eq hb hw hf (t := (i : Int)) (by omega) 6 _ out (by omega) (by omega) (by omega) kx kr
    have hl := List.length_filter_le (goesP p) (promosL f (i : Int) 6)
    rw [promos_len] at hl
    have ih := N_ref10_All_2_eq hb hw hf d (i + 1) n (out ++ (promosL f (i : Int) 6).filter (goesP p)) (by omega) (by omega) (by rw [List.length_append]; omega) kx kr
    rw [N_ref10_All_2_succ]
    unfold R_ref10_All_2
    rw [show decide ((i : Int) < 64) = true from e1, hin, e3]
    simp only [cond_true, ih]
    unfold refTo
    rw [List.range'_succ, List.flatMap_cons, List.append_assoc]

theorem refTo_none {f : Nat} (hz : p.1.getD f 0 = 0) (ht : p.2.1 = 0 ∨ p.2.1 = 1) (i d : Nat) : refTo p (f : Nat) i d = [] := by
  unfold refTo
  rw [List.flatMap_eq_nil_iff]
  intro t _
  rw [List.filter_eq_nil_iff]
  intro m hm
  have hm1 : m.1 = (f : Int) := by
    have : ∀ d, m ∈ promosL (f : Int) (t : Int) d → m.1 = (f : Int) := by
      intro d
      induction d with
      | zero => intro h; cases h
      | succ d ih => intro h; rcases List.mem_cons.1 h with rfl | h; rfl; exact ih h
    exact this _ hm
  unfold goesP formedP atM
  rw [hm1, Int.toNat_natCast, hz, show sideM 0 = -1 from rfl]
  rcases ht with ht | ht <;> rw [ht] <;> simp

def refL (p : PosD) (i d : Nat) : List MoveD := (List.range' i d).flatMap fun (f : Nat) => refTo p (f : Int) 0 64
theorem N_ref10_All_0_eq (hb : Bd p.1) (hw : wrongP p = 0) : ∀ (d i n : Nat) (out : List MoveD), i + d = 64 → d < n → out.length ≤ 384 * i → ∀ {S : Type} (kx : List MoveD → Option S) (kr : Option S),
    N_ref10_All_0 n (i : Int) p out kx kr = kx (out ++ refL p i d)
  | 0, i, n + 1, out, hi, hn, ho, S, kx, kr => by
    obtain rfl : i = 64 := by omega
    rw [N_ref10_All_0_succ]
    unfold R_ref10_All_0
    simp [refL]
  | d + 1, i, n + 1, out, hi, hn, ho, S, kx, kr => by
    obtain ⟨e1, e2, e3⟩ := scan 64 (by omega) hi
    have hf : 0 ≤ (i : Int) ∧ (i : Int) < 64 := by omega
    have hl := refTo_len p (i : Int) 64 0
    have hin : ∀ (kx : Int → PosD → List MoveD → Option S) (kr : Option S), L_ref10_All_2 (i : Int) 0 p out (struckL p.1 (i : Int)) kx kr = kx (i : Int) p (out ++ refTo p (i : Int) 0 64) := by
      intro kx kr
      rw [L_ref10_All_2_N]
      exact N_ref10_All_2_eq hb hw hf 64 0 _ out rfl (by omega) (by omega) kx kr
    have ih1 := N_ref10_All_0_eq hb hw d (i + 1) n out (by omega) (by omega) (by omega) kx kr
    have ih2 := N_ref10_All_0_eq hb hw d (i + 1) n (out ++ refTo p (i : Int) 0 64) (by omega) (by omega) (by rw [List.length_append]; omega) kx kr
    rw [N_ref10_All_0_succ]
    unfold R_ref10_All_0
    rw [show decide ((i : Int) < 64) = true from e1, show inB (i : Int) 64 = true from e2, e3, Int.toNat_natCast]
    simp only [cond_true, ref10_struck_eq hb hf, hin, e3, ih1, ih2]
    unfold refL
    rw [List.range'_succ, List.flatMap_cons, ← List.append_assoc]
    cases hz : p.1.getD i 0 == 0 with
    | false => rfl
    | true => rw [refTo_none (by simpa using hz) (wrong_turn hw)]; simp

theorem ref10_All_eq (hb : Bd p.1) (hw : wrongP p = 0) {S : Type} (k : List MoveD → Option S) : F_ref10_All p k = k (refL p 0 64) := by
  unfold F_ref10_All R_ref10_All
  rw [L_ref10_All_0_N]
  exact N_ref10_All_0_eq hb hw 64 0 _ [] rfl (by simp) (by simp) _ _
end

theorem beqM (a b : MoveD) : Ty.beq (.pair (.int .i64) (.pair (.int .i64) (.pair (.int .i64) .unit))) a b = (a.1 == b.1 && (a.2.1 == b.2.1 && (a.2.2.1 == b.2.2.1 && true))) := rfl
theorem beqM_iff (a b : MoveD) : Ty.beq (.pair (.int .i64) (.pair (.int .i64) (.pair (.int .i64) .unit))) a b = true ↔ a = b := by
  obtain ⟨a1, a2, a3, ⟨⟩⟩ := a
  obtain ⟨b1, b2, b3, ⟨⟩⟩ := b
  rw [beqM]
  simp
theorem beqM_refl (a : MoveD) : Ty.beq (.pair (.int .i64) (.pair (.int .i64) (.pair (.int .i64) .unit))) a a = true := (beqM_iff a a).2 rfl

theorem N_Same_eq (l : List MoveD) (hl : l.length ≤ 1000000) : ∀ (d i n : Nat), i + d = l.length → d < n → ∀ {S : Type} (kx : Option S) (kr : Bool → Option S), N_ref09_Same_0 n l l (i : Int) kx kr = kx
  | 0, i, n + 1, hi, hn, S, kx, kr => by
    rw [N_ref09_Same_0_succ]
    unfold R_ref09_Same_0
    rw [show decide ((i : Int) < ((l.length : Nat) : Int)) = false by simp; omega]
    rfl
  | d + 1, i, n + 1, hi, hn, S, kx, kr => by
    have e1 : decide ((i : Int) < ((l.length : Nat) : Int)) = true := by simp; omega
    have e2 : inB (i : Int) l.length = true := inB_true (by omega)
    have e3 : IntKind.wrap .i64 ((i : Int) + 1) = ((i + 1 : Nat) : Int) := by rw [w64 (by omega)]; rfl
    rw [N_ref09_Same_0_succ]
    unfold R_ref09_Same_0
    simp only [e1, e2, e3, cond_true, beqM_refl, Bool.not_true, cond_false, N_Same_eq l hl d (i + 1) n (by omega) (by omega)]
theorem ref09_Same_self (l : List MoveD) (hl : l.length ≤ 1000000) {S : Type} (k : Bool → Option S) : F_ref09_Same l l k = k true := by
  unfold F_ref09_Same R_ref09_Same
  rw [show (((l.length : Nat) : Int) != ((l.length : Nat) : Int)) = false by simp, cond_false, L_ref09_Same_0_N]
  exact N_Same_eq l hl l.length 0 _ (Nat.zero_add _) (by omega) _ _

end Go.Proofs.YtaldkopkfdgngaaGreatDoor

