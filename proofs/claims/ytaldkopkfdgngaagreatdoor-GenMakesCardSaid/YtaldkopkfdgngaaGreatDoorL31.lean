/- Plain law: GenMakes. -/
import Derived.Test.YtaldkopkfdgngaaGreatDoorL30
set_option linter.all false
set_option maxRecDepth 100000
namespace Go.Proofs.YtaldkopkfdgngaaGreatDoor
open Go Am

theorem allL_len (p : PosD) : (allL p).length ≤ 153600 := by
  have key : ∀ (d i : Nat), ((List.range' i d).flatMap fun (s : Nat) => fromL p (s : Int)).length ≤ 2400 * d := by
    intro d
    induction d with
    | zero => intro i; simp
    | succ d ih =>
      intro i
      have h1 := ih (i + 1)
      have h2 := fromL_len p (i : Int)
      rw [List.range'_succ, List.flatMap_cons, List.length_append]
      omega
  exact key 64 0

section
variable {Fw : ({S : Type} → (Bool → Option S) → Option S)} {Fn : ({S : Type} → (Option S) → Option S)} {Fa : (PosD → {S : Type} → ((List MoveD) → Option S) → Option S)} {L : (Int → Int → PosD → (List MoveD) → {S : Type} → (Option S) → (Bool → Option S) → Option S)}
end

theorem genMakes_eq {p : PosD} (hb : Bd p.1) {S : Type} (k : Bool → Option S) : F_law10_GenMakes p k = k true := by
  have hl : ∀ l : List MoveD, (∀ m ∈ l, m ∈ allL p) → l.length ≤ 200000 → (l ≠ [] → wrongP p = 0) → L_law10_GenMakes_0 (((List.length l) : Nat) : Int) 0 p l (k true) (fun z2 => k z2) = k true := by
    intro l h1 h2 h3
    rw [L_law10_GenMakes_0_N]
    by_cases hn : l = []
    · subst hn
      rw [show 100 + ([] : List MoveD).length = 99 + 1 from rfl, N_law10_GenMakes_0_succ]
      rfl
    · exact N_GenMakes_0_eq hb (h3 hn) l h1 h2 l.length 0 (100 + l.length) (by omega) (by omega) (k true) (fun z2 => k z2)
  have hA : F_gen_Gen_All p (fun z1 => L_law10_GenMakes_0 (((List.length z1) : Nat) : Int) 0 p z1 (k true) (fun z2 => k z2)) = k true := by
    rw [All_eq hb]
    cases hw : wrongP p == 0 with
    | true => exact hl (allL p) (fun _ h => h) (Nat.le_trans (allL_len p) (by omega)) (fun _ => by simpa using hw)
    | false => exact hl [] (fun _ h => by cases h) (by simp) (fun h => (h rfl).elim)
  unfold F_law10_GenMakes R_law10_GenMakes
  refine (wakes10 _).trans ?_
  exact hA

end Go.Proofs.YtaldkopkfdgngaaGreatDoor

