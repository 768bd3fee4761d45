/- Plain laws: GenAll, GenFrom. -/
import Derived.Test.YtaldkopkfdgngaaGreatDoorL35
import Derived.Test.YtaldkopkfdgngaaGreatDoorLA
set_option linter.all false
set_option maxRecDepth 100000
namespace Go.Proofs.YtaldkopkfdgngaaGreatDoor
open Go Am

theorem all_len (p : PosD) : (allL p).length ≤ 153600 := by
  have key : ∀ (d i : Nat), ((List.range' i d).flatMap fun (s : Nat) => fromL p (s : Int)).length ≤ 2400 * d := by
    intro d
    induction d with
    | zero => intro i; simp
    | succ d ih =>
      intro i
      have h1 := ih (i + 1)
      have h2 := fromL_len p (i : Int)
      rw [List.range'_succ, List.flatMap_cons, List.length_append]
      omega
  exact key 64 0

theorem genAll_core {p : PosD} {Fw : ({S : Type} → (Bool → Option S) → Option S)} {Fa : (PosD → {S : Type} → (List MoveD → Option S) → Option S)} {Fn : ({S : Type} → Option S → Option S)} {Fr : (PosD → {S : Type} → (Bool → Option S) → Option S)} {Fl : (PosD → {S : Type} → (List MoveD → Option S) → Option S)} {Fs : (List MoveD → List MoveD → {S : Type} → (Bool → Option S) → Option S)} {S : Type} (k : Bool → Option S) (w : Bool) (l : List MoveD)
    (h1 : ∀ {S : Type} (k : Bool → Option S), Fw k = k true) (h2 : ∀ {S : Type} (k : Option S), Fn k = k) (h3 : ∀ {S : Type} (k : List MoveD → Option S), Fa p k = k (bif w then l else [])) (h4 : ∀ {S : Type} (k : Bool → Option S), Fr p k = k w)
    (h5 : w = true → ∀ {S : Type} (k : List MoveD → Option S), Fl p k = k l) (h6 : ∀ {S : Type} (k : Bool → Option S), Fs l l k = k true) :
    (Fw fun z0 => bif !z0 then k false else Fn (Fa p fun z1 => Fr p fun z2 => bif !z2 then k (((z1.length : Nat) : Int) == 0) else Fl p fun z3 => Fs z1 z3 fun z4 => k z4)) = k true := by
  refine (h1 _).trans ?_
  show Fn _ = _
  refine (h2 _).trans ((h3 _).trans ((h4 _).trans ?_))
  cases w with
  | false => rfl
  | true => exact (h5 rfl _).trans (h6 _)

theorem genAll_eq {p : PosD} (hb : Bd p.1) {S : Type} (k : Bool → Option S) : F_law10_GenAll p k = k true := by
  have h5 : (wrongP p == 0) = true → ∀ {S : Type} (k : List MoveD → Option S), F_ref10_All p k = k (allL p) := by
    intro hw S k
    have hw' : wrongP p = 0 := by simpa using hw
    rw [ref10_All_eq hb hw', allL_refL hb hw']
  unfold F_law10_GenAll R_law10_GenAll
  exact genAll_core (Fw := @F_law10_wakes) (Fa := @F_gen_Gen_All) (Fn := @F_gen_New) (Fr := @F_ref10_Right) (Fl := @F_ref10_All) (Fs := @F_ref09_Same) k (wrongP p == 0) (allL p)
    (fun k => wakes10 k) (fun k => rfl) (fun k => All_eq hb k) (fun k => ref10_Right_eq hb k)
    h5
    (fun k => ref09_Same_self _ (Nat.le_trans (all_len p) (by omega)) k)

end Go.Proofs.YtaldkopkfdgngaaGreatDoor

