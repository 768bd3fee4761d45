/- Plain law: GenMakes. -/
import Derived.Test.YtaldkopkfdgngaaGreatDoorL29
import Derived.Test.YtaldkopkfdgngaaGreatDoorLA
set_option linter.all false
set_option maxRecDepth 100000
namespace Go.Proofs.YtaldkopkfdgngaaGreatDoor
open Go Am

theorem kingV {t : Int} (ht : t = 0 ∨ t = 1) : IntKind.wrap .i8 (IntKind.wrap .i64 (6 - IntKind.wrap .i64 (12 * t))) = makeM 6 t := by rcases ht with rfl | rfl <;> rfl

theorem N_GenMakes_2_eq {b : List Int} (hl : b.length = 64) (hR : noRim b) {p : PosD} (ht : p.2.1 = 0 ∨ p.2.1 = 1) (a1 a2 : Int) (l : List MoveD) : ∀ (d i n c : Nat), i + d = 64 → d < n → c ≤ i → ∀ {S : Type} (kx : Int → Int → Int → PosD → List MoveD → Option S) (kr : Bool → Option S),
    N_law10_GenMakes_2 n (c : Int) a1 a2 b (i : Int) p l kx kr = kx ((c + (b.drop i).countP (isK p.2.1) : Nat) : Int) a1 a2 p l
  | 0, i, n + 1, c, hi, hn, hc, S, kx, kr => by
    obtain rfl : i = 64 := by omega
    rw [N_law10_GenMakes_2_succ, List.drop_eq_nil_of_le (by omega)]
    rfl
  | d + 1, i, n + 1, c, hi, hn, hc, S, kx, kr => by
    obtain ⟨e1, e2, e3⟩ := scan 64 (by omega) hi
    have e4 : IntKind.wrap .i64 ((c : Int) + 1) = ((c + 1 : Nat) : Int) := by rw [w64 (by omega)]; rfl
    have hr := hR i
    rw [N_law10_GenMakes_2_succ]
    unfold R_law10_GenMakes_2
    rw [show decide ((i : Int) < 64) = true from e1, show inB (i : Int) 64 = true from e2]
    simp only [e3, e4, cond_true, Int.toNat_natCast, kingV ht, N_GenMakes_2_eq hl hR ht a1 a2 l d (i + 1) n c (by omega) (by omega) (by omega), N_GenMakes_2_eq hl hR ht a1 a2 l d (i + 1) n (c + 1) (by omega) (by omega) (by omega)]
    rw [drop_cons (b := b) (i := i) (by omega), countP_step]
    have hk : isK p.2.1 (b.getD i 0) = (b.getD i 0 == makeM 6 p.2.1) := rfl
    rw [hk]
    have e5 : ∀ z : Nat, c + 1 + z = c + (z + 1) := fun z => by omega
    by_cases h1 : b.getD i 0 = 1
    · have := hr (by rw [h1]; rfl)
      rw [show decide ((i : Int) < 8) = false by simp; omega, show decide ((i : Int) > 55) = false by simp; omega, show (b.getD i 0 == 1) = true by simpa using h1]
      cases b.getD i 0 == makeM 6 p.2.1 <;> simp only [cond_true, cond_false, e5]
    · rw [show (b.getD i 0 == 1) = false by simpa using h1]
      by_cases h2 : b.getD i 0 = -1
      · have := hr (by rw [h2]; rfl)
        rw [show decide ((i : Int) < 8) = false by simp; omega, show decide ((i : Int) > 55) = false by simp; omega, show (b.getD i 0 == -1) = true by simpa using h2]
        cases b.getD i 0 == makeM 6 p.2.1 <;> simp only [cond_true, cond_false, e5]
      · rw [show (b.getD i 0 == -1) = false by simpa using h2]
        cases b.getD i 0 == makeM 6 p.2.1 <;> simp only [cond_true, cond_false, e5]

theorem one_king {p : PosD} (hw : wrongP p = 0) : p.1.countP (isK p.2.1) = 1 := by
  obtain ⟨_, h2, h3⟩ := wrongB_spec (wrong_spec hw).1
  unfold manyB at h2 h3
  rw [kings0] at h2
  rw [kings1] at h3
  rcases wrong_turn hw with ht | ht <;> rw [ht]
  · show p.1.countP (· == 6) = 1; omega
  · show p.1.countP (· == -6) = 1; omega

theorem N_GenMakes_0_eq {p : PosD} (hb : Bd p.1) (hw : wrongP p = 0) (l : List MoveD) (hl : ∀ m ∈ l, m ∈ allL p) (hll : l.length ≤ 200000) : ∀ (d i n : Nat), i + d = l.length → d < n → ∀ {S : Type} (kx : Option S) (kr : Bool → Option S),
    N_law10_GenMakes_0 n ((l.length : Nat) : Int) (i : Int) p l kx kr = kx
  | 0, i, n + 1, hi, hn, S, kx, kr => by
    rw [N_law10_GenMakes_0_succ]
    unfold R_law10_GenMakes_0
    rw [show decide ((i : Int) < ((l.length : Nat) : Int)) = false by simp; omega]
    rfl
  | d + 1, i, n + 1, hi, hn, S, kx, kr => by
    have e1 : decide ((i : Int) < ((l.length : Nat) : Int)) = true := by simp; omega
    have e2 : inB (i : Int) l.length = true := inB_true (by omega)
    have e3 : IntKind.wrap .i64 ((i : Int) + 1) = ((i + 1 : Nat) : Int) := by rw [w64 (by omega)]; rfl
    have ht := wrong_turn hw
    have hm : l.getD i (0, 0, 0, ()) ∈ l := by
      rw [List.getD_eq_getElem?_getD, List.getElem?_eq_getElem (by omega)]
      exact List.getElem_mem _
    have ha := hl _ hm
    have hf := allL_formed ht ha
    have h := formed_spec hb hw hf
    have hc := (wrong_spec hw).2.1
    have hrk : kindM (atM p (l.getD i (0, 0, 0, ())).1) = 1 → rankS (l.getD i (0, 0, 0, ())).2.1 ≠ 7 - lastS p.2.1 := by
      unfold allL at ha
      obtain ⟨s, _, h2⟩ := List.mem_flatMap.1 ha
      exact fromL_rank ht h2
    have hR := do4_rim h (noRim_of hb.1 (wrongB_rim (by simpa using (wrong_spec hw).1))) hf hrk
    have hK : (do4 p (l.getD i (0, 0, 0, ()))).countP (isK p.2.1) = 1 := by rw [do4_kings h, one_king hw]
    have hlen := (do4_facts h).1
    have hmk : ∀ {S : Type} (k : PosD → Int → Option S), F_move_Make p (l.getD i (0, 0, 0, ())) k = k (doP p (l.getD i (0, 0, 0, ()))) 0 := fun k => by rw [move_Make_eq hb, hw, hf]; rfl
    rw [N_law10_GenMakes_0_succ]
    unfold R_law10_GenMakes_0
    rw [e1, e2]
    simp only [cond_true, Int.toNat_natCast, hmk]
    generalize l.getD i (0, 0, 0, ()) = m at *
    rw [show (doP p m).1 = do4 p m from rfl, L_law10_GenMakes_2_N]
    have h2 := N_GenMakes_2_eq hlen hR ht ((l.length : Nat) : Int) (i : Int) l 64 0 (100 + (do4 p m).length + l.length) 0 rfl (by omega) (Nat.le_refl _) (S := S)
      (fun z2 z3 z4 z5 z6 => bif z2 != 1 then kr false else N_law10_GenMakes_0 n z3 (IntKind.wrap .i64 (z4 + 1)) z5 z6 kx kr) (fun z7 => kr z7)
    refine Eq.trans h2 ?_
    rw [List.drop_zero, hK]
    show N_law10_GenMakes_0 n _ (IntKind.wrap .i64 ((i : Int) + 1)) p l kx kr = kx
    rw [e3]
    exact N_GenMakes_0_eq hb hw l hl hll d (i + 1) n (by omega) (by omega) kx kr

end Go.Proofs.YtaldkopkfdgngaaGreatDoor

