/- Plain law: MoveTexts. -/
import Derived.Test.YteeiccpbiniljaaGreatDoorX3
set_option linter.all false
set_option maxRecDepth 100000
namespace Go.Proofs.YteeiccpbiniljaaGreatDoor
open Go Am

def P0 : List (List UInt8) := [[], [], []]
def promoL (l : List UInt8) : Option Int := bif eqU l [110] then some 2 else bif eqU l [98] then some 3 else bif eqU l [114] then some 4 else bif eqU l [113] then some 5 else none
def parseQ (Q : List (List UInt8)) : Option MoveD :=
  match sqL (Q.getD 0 []), sqL (Q.getD 1 []) with
  | some a, some b => bif eqU (Q.getD 2 []) [] then some (a, b, 0, ()) else (promoL (Q.getD 2 [])).map fun k => (a, b, k, ())
  | _, _ => none
/-- The move of a text. -/
def parseR (l : List UInt8) : Option MoveD := (goL l (l.length + 1) 0 0 P0).bind parseQ

theorem eqU_iff {a b : List UInt8} : eqU a b = true ↔ a = b := by unfold eqU; exact beq_iff_eq

theorem parse2_step (n : Nat) (a b k : Int) (hk : k ≤ 5) (P : List ByteArray) (x : List UInt8) (e : ∀ {S : Type} (g : ByteArray → Option S), F_men_Letter (IntKind.wrap .i64 (0 - k)) g = g (mkB x)) {S : Type} (kx : MoveD → Option S) (kr : Bool → MoveD → Option S) :
    N_move_Parse_2 (n + 1) a b k (0, 0, 0, ()) P kx kr = bif eqU (bts (P.getD 2 ByteArray.empty)) x then kr true (a, b, k, ()) else N_move_Parse_2 n a b (IntKind.wrap .i64 (k + 1)) (0, 0, 0, ()) P kx kr := by
  rw [N_move_Parse_2_succ]
  unfold R_move_Parse_2
  rw [show decide (k ≤ 5) = true by simpa using hk]
  refine (e _).trans ?_
  rw [tol, tol, bts_mkB]
  rfl
theorem parse2_end (n : Nat) (a b : Int) (P : List ByteArray) {S : Type} (kx : MoveD → Option S) (kr : Bool → MoveD → Option S) : N_move_Parse_2 (n + 1) a b 6 (0, 0, 0, ()) P kx kr = kx (0, 0, 0, ()) := by
  rw [N_move_Parse_2_succ]
  rfl
theorem wrapL (k k2 : Int) (h : -9223372036854775808 ≤ 0 - k ∧ 0 - k ≤ 9223372036854775807) (h2 : 0 - k = k2) {x : ByteArray} (e : ∀ {S : Type} (g : ByteArray → Option S), F_men_Letter k2 g = g x) : ∀ {S : Type} (g : ByteArray → Option S), F_men_Letter (IntKind.wrap .i64 (0 - k)) g = g x := by
  intro S g
  rw [w64 h, h2]
  exact e g
theorem parse2_all (n : Nat) (a b : Int) (P : List ByteArray) {S : Type} (kx : MoveD → Option S) (kr : Bool → MoveD → Option S) :
    N_move_Parse_2 (n + 4 + 1) a b 2 (0, 0, 0, ()) P kx kr = match promoL (bts (P.getD 2 ByteArray.empty)) with | some k => kr true (a, b, k, ()) | none => kx (0, 0, 0, ()) := by
  have s2 := parse2_step (n + 4) a b 2 (by omega) P [110] (wrapL 2 (-2) (by omega) (by omega) letter2') kx kr
  have s3 := parse2_step (n + 3) a b 3 (by omega) P [98] (wrapL 3 (-3) (by omega) (by omega) letter3') kx kr
  have s4 := parse2_step (n + 2) a b 4 (by omega) P [114] (wrapL 4 (-4) (by omega) (by omega) letter4') kx kr
  have s5 := parse2_step (n + 1) a b 5 (by omega) P [113] (wrapL 5 (-5) (by omega) (by omega) letter5') kx kr
  rw [show IntKind.wrap .i64 ((2 : Int) + 1) = 3 from rfl] at s2
  rw [show IntKind.wrap .i64 ((3 : Int) + 1) = 4 from rfl] at s3
  rw [show IntKind.wrap .i64 ((4 : Int) + 1) = 5 from rfl] at s4
  rw [show IntKind.wrap .i64 ((5 : Int) + 1) = 6 from rfl] at s5
  rw [s2, s3, s4, s5, parse2_end]
  unfold promoL
  generalize bts (P.getD 2 ByteArray.empty) = l
  cases eqU l [110] with
  | true => rfl
  | false =>
    cases eqU l [98] with
    | true => rfl
    | false =>
      cases eqU l [114] with
      | true => rfl
      | false => cases eqU l [113] <;> rfl

theorem N_move_Parse_2_eq (a b : Int) (Q : List (List UInt8)) {S : Type} (kx : MoveD → Option S) (kr : Bool → MoveD → Option S) :
    L_move_Parse_2 a b 2 (0, 0, 0, ()) (Q.map mkB) kx kr = match promoL (Q.getD 2 []) with | some k => kr true (a, b, k, ()) | none => kx (0, 0, 0, ()) := by
  rw [L_move_Parse_2_N]
  obtain ⟨n, hn⟩ : ∃ n, 100 + (Q.map mkB).length = n + 4 + 1 := ⟨95 + (Q.map mkB).length, by omega⟩
  rw [hn, parse2_all, getD_map, bts_mkB]

theorem move_Parse_eq (l : List UInt8) (hl : l.length ≤ 1000000) {S : Type} (k : MoveD → Bool → Option S) : F_move_Parse (mkB l) k = match parseR l with | some m => k m true | none => k (0, 0, 0, ()) false := by
  unfold F_move_Parse R_move_Parse
  rw [L_move_Parse_0_N]
  have h0 : room P0 0 := by
    refine ⟨rfl, fun j => ?_⟩
    match j with
    | 0 => exact Nat.le_refl _
    | 1 => exact Nat.le_refl _
    | 2 => exact Nat.le_refl _
    | j + 3 => exact Nat.le_refl _
  have hm := N_move_Parse_0_eq l hl (l.length + 1) 0 0 (100 + ([ByteArray.empty, ByteArray.empty, ByteArray.empty] : List ByteArray).length + (mkB l).size) P0 (by omega) (by rw [mkB_size]; omega) (by omega) h0
    (fun z0 z1 => F_square_Parse (z1.getD 0 ByteArray.empty) fun z2 z3 => F_square_Parse (z1.getD 1 ByteArray.empty) fun z4 z5 => bif !z3 then k (0, 0, 0, ()) false else bif !z5 then k (0, 0, 0, ()) false else bif ByteArray.toList (z1.getD 2 ByteArray.empty) == ByteArray.toList (ByteArray.mk (List.toArray [])) then k (z2, z4, 0, ()) true else
      L_move_Parse_2 z2 z4 2 z0 z1 (fun z6 => k (0, 0, 0, ()) false) (fun z7 z8 => k z8 z7)) (fun z9 z10 => k z10 z9)
  refine hm.trans ?_
  rw [if_neg (by omega)]
  unfold parseR
  cases goL l (l.length + 1) 0 0 P0 with
  | none => rfl
  | some Q =>
    simp only [Option.bind_some]
    rw [getD_map, getD_map, square_Parse_eq]
    unfold parseQ
    cases h1 : sqL (Q.getD 0 []) with
    | none =>
      simp only
      rw [square_Parse_eq]
      cases sqL (Q.getD 1 []) <;> rfl
    | some a =>
      simp only
      rw [square_Parse_eq]
      cases h2 : sqL (Q.getD 1 []) with
      | none => rfl
      | some b =>
        simp only [Bool.not_true, cond_false]
        rw [N_move_Parse_2_eq, getD_map, tol, tol, bts_mkB, empty_mk, bts_mkB]
        rw [show (Q.getD 2 [] == []) = eqU (Q.getD 2 []) [] from rfl]
        cases eqU (Q.getD 2 []) [] with
        | true => rfl
        | false =>
          cases promoL (Q.getD 2 []) <;> rfl

/-! ### sound, complete -/
theorem promoL_sound {l : List UInt8} {k : Int} (h : promoL l = some k) : (2 ≤ k ∧ k ≤ 5) ∧ l = smallL k := by
  unfold promoL at h
  cases h2 : eqU l [110] with
  | true => rw [h2] at h; cases h; exact ⟨by omega, eqU_iff.1 h2⟩
  | false =>
    cases h3 : eqU l [98] with
    | true => rw [h2, h3] at h; cases h; exact ⟨by omega, eqU_iff.1 h3⟩
    | false =>
      cases h4 : eqU l [114] with
      | true => rw [h2, h3, h4] at h; cases h; exact ⟨by omega, eqU_iff.1 h4⟩
      | false =>
        cases h5 : eqU l [113] with
        | true => rw [h2, h3, h4, h5] at h; cases h; exact ⟨by omega, eqU_iff.1 h5⟩
        | false => rw [h2, h3, h4, h5] at h; cases h

theorem parseQ_sound {Q : List (List UInt8)} {m : MoveD} (h : parseQ Q = some m) : validM m = true ∧ Q.getD 0 [] = nameL m.1 ∧ Q.getD 1 [] = nameL m.2.1 ∧ Q.getD 2 [] = smallL m.2.2.1 := by
  unfold parseQ at h
  cases h1 : sqL (Q.getD 0 []) with
  | none => rw [h1] at h; cases h
  | some a =>
    cases h2 : sqL (Q.getD 1 []) with
    | none => rw [h1, h2] at h; cases h
    | some b =>
      rw [h1, h2] at h
      simp only at h
      obtain ⟨a1, a2⟩ := sqL_sound h1
      obtain ⟨b1, b2⟩ := sqL_sound h2
      cases h3 : eqU (Q.getD 2 []) [] with
      | true =>
        rw [h3] at h
        cases h
        refine ⟨?_, a2, b2, eqU_iff.1 h3⟩
        unfold validM
        rw [rightS_iff.2 a1, rightS_iff.2 b1]; rfl
      | false =>
        rw [h3] at h
        cases h4 : promoL (Q.getD 2 []) with
        | none => rw [h4] at h; cases h
        | some k =>
          rw [h4] at h
          cases h
          obtain ⟨c1, c2⟩ := promoL_sound h4
          refine ⟨?_, a2, b2, c2⟩
          unfold validM
          rw [rightS_iff.2 a1, rightS_iff.2 b1]
          simp; omega

def plainB : Bool := (List.range 64).all fun n => (nameL (n : Nat)).all fun b => decide (b.toNat < 128)
theorem plain_all : plainB = true := by kernel_rfl
theorem name_plain {s : Int} (hs : 0 ≤ s ∧ s < 64) : plain (nameL s) := by
  have h := plain_all
  unfold plainB at h
  rw [List.all_eq_true] at h
  have h1 := h s.toNat (by simp; omega)
  rw [Int.toNat_of_nonneg hs.1, List.all_eq_true] at h1
  intro b hb
  simpa using h1 b hb
theorem small_plain (k : Int) : plain (smallL k) := by
  unfold smallL plain
  cases k == 2 <;> cases k == 3 <;> cases k == 4 <;> cases k == 5 <;> decide
theorem valid_spec {m : MoveD} (h : validM m = true) : (0 ≤ m.1 ∧ m.1 < 64) ∧ (0 ≤ m.2.1 ∧ m.2.1 < 64) ∧ (m.2.2.1 = 0 ∨ 2 ≤ m.2.2.1 ∧ m.2.2.1 ≤ 5) := by
  unfold validM at h
  simp only [Bool.and_eq_true, Bool.or_eq_true, beq_iff_eq, decide_eq_true_eq] at h
  exact ⟨rightS_iff.1 h.1, rightS_iff.1 h.2.1, h.2.2⟩

theorem fill_join : ∀ l : List UInt8, l.length ≤ 5 → (fillL P0 0 l).getD 0 [] ++ (fillL P0 0 l).getD 1 [] ++ (fillL P0 0 l).getD 2 [] = l
  | [], _ => rfl
  | [_], _ => rfl
  | [_, _], _ => rfl
  | [_, _, _], _ => rfl
  | [_, _, _, _], _ => rfl
  | [_, _, _, _, _], _ => rfl
  | _ :: _ :: _ :: _ :: _ :: _ :: _, h => by simp at h

theorem parse_sound {l : List UInt8} {m : MoveD} (h : parseR l = some m) : validM m = true ∧ l = textL m := by
  unfold parseR at h
  cases hg : goL l (l.length + 1) 0 0 P0 with
  | none => rw [hg] at h; cases h
  | some Q =>
    rw [hg] at h
    obtain ⟨hv, q0, q1, q2⟩ := parseQ_sound h
    obtain ⟨v1, v2, _⟩ := valid_spec hv
    have hQ3 : ∀ j, plain (Q.getD j []) → True := fun _ _ => trivial
    have hp : ∀ j, j < 3 → plain (Q.getD j []) := by
      intro j hj
      have : j = 0 ∨ j = 1 ∨ j = 2 := by omega
      rcases this with rfl | rfl | rfl
      · rw [q0]; exact name_plain v1
      · rw [q1]; exact name_plain v2
      · rw [q2]; exact small_plain _
    have hlen : ∀ (d n i : Nat) (P : List (List UInt8)), goL l d n i P = some Q → Q.length = P.length := by
      intro d
      induction d with
      | zero => intro n i P h; cases h
      | succ d ih =>
        intro n i P h
        unfold goL at h
        by_cases h1 : i < l.length
        · rw [if_pos h1] at h
          by_cases h2 : n > 4
          · rw [if_pos h2] at h; cases h
          · rw [if_neg h2] at h
            rw [ih _ _ _ h, partS_len]
        · rw [if_neg h1] at h
          cases h
          rfl
    have hl3 : Q.length = 3 := hlen _ _ _ _ hg
    have hpall : ∀ j, plain (Q.getD j []) := by
      intro j
      by_cases hj : j < 3
      · exact hp j hj
      · rw [List.getD_eq_getElem?_getD, List.getElem?_eq_none (by omega)]
        intro b hb
        cases hb
    obtain ⟨s1, s2⟩ := goL_sound l _ 0 0 P0 Q (by omega) rfl hg hpall
    rw [List.drop_zero] at s1 s2
    refine ⟨hv, ?_⟩
    have hj := fill_join l (by omega)
    rw [← s2, q0, q1, q2] at hj
    exact hj.symm

theorem promo_small {k : Int} (h : 2 ≤ k ∧ k ≤ 5) : eqU (smallL k) [] = false ∧ promoL (smallL k) = some k := by
  have : k = 2 ∨ k = 3 ∨ k = 4 ∨ k = 5 := by omega
  rcases this with rfl | rfl | rfl | rfl <;> exact ⟨rfl, rfl⟩
theorem parse_complete {m : MoveD} (h : validM m = true) : parseR (textL m) = some m := by
  obtain ⟨v1, v2, v3⟩ := valid_spec h
  obtain ⟨s, t, k, ⟨⟩⟩ := m
  simp only at v1 v2 v3
  have hp : plain (textL (s, t, k, ())) := by
    intro b hb
    unfold textL at hb
    rcases List.mem_append.1 hb with hb | hb
    · rcases List.mem_append.1 hb with hb | hb
      · exact name_plain v1 b hb
      · exact name_plain v2 b hb
    · exact small_plain k b hb
  have hsl : (smallL k).length ≤ 1 := by
    unfold smallL
    cases k == 2 <;> cases k == 3 <;> cases k == 4 <;> cases k == 5 <;> decide
  have hlen : (textL (s, t, k, ())).length ≤ 5 := by
    unfold textL
    rw [List.length_append, List.length_append, nameL_len, nameL_len]
    show 2 + 2 + (smallL k).length ≤ 5
    omega
  unfold parseR
  rw [goL_complete _ hp _ 0 0 P0 (by rw [List.drop_zero, Nat.zero_add]; exact hlen) (by rw [List.drop_zero]; exact Nat.lt_succ_self _), List.drop_zero, Option.bind_some]
  have hf : fillL P0 0 (textL (s, t, k, ())) = [nameL s, nameL t, smallL k] := by
    rcases promo_cases v3 with rfl | rfl | rfl | rfl | rfl <;> rfl
  rw [hf]
  unfold parseQ
  show (match sqL (nameL s), sqL (nameL t) with
    | some a, some b => bif eqU (smallL k) [] then some (a, b, 0, ()) else (promoL (smallL k)).map fun k => (a, b, k, ())
    | _, _ => none) = some (s, t, k, ())
  rw [sqL_name v1, sqL_name v2]
  simp only
  rcases v3 with rfl | hk
  · rfl
  · obtain ⟨e1, e2⟩ := promo_small hk
    rw [e1, e2]; rfl

/-! ### the law -/
theorem beqM (a b : MoveD) : Ty.beq (.pair (.int .i64) (.pair (.int .i64) (.pair (.int .i64) .unit))) a b = (a.1 == b.1 && (a.2.1 == b.2.1 && (a.2.2.1 == b.2.2.1 && true))) := rfl
theorem beqM_refl (a : MoveD) : Ty.beq (.pair (.int .i64) (.pair (.int .i64) (.pair (.int .i64) .unit))) a a = true := by rw [beqM]; simp

theorem second {t : ByteArray} (hs : t.size ≤ 50) {S : Type} (k : Bool → Option S) :
    F_move_Parse t (fun z5 z6 => bif !z6 then (bif Ty.beq (.pair (.int .i64) (.pair (.int .i64) (.pair (.int .i64) .unit))) z5 (0, 0, 0, ()) then F_ref09_Text z5 (fun z7 => bif !(ByteArray.toList z7 == ByteArray.toList t) then k true else k (ByteArray.toList t == ByteArray.toList (ByteArray.mk (List.toArray [])))) else k false) else F_ref09_Text z5 (fun z8 => k (ByteArray.toList z8 == ByteArray.toList t))) = k true := by
  have hlen : (bts t).length ≤ 50 := by rw [bts_len]; exact hs
  have ht : t = mkB (bts t) := (mkB_bts t).symm
  rw [ht]
  rw [move_Parse_eq (bts t) (by omega)]
  cases hp : parseR (bts t) with
  | some m =>
    obtain ⟨h1, h2⟩ := parse_sound hp
    simp only [Bool.not_true, cond_false]
    rw [ref09_Text_eq]
    unfold textM
    rw [h1, ← h2]
    simp
  | none =>
    simp only [Bool.not_false, cond_true]
    rw [beqM_refl, cond_true, ref09_Text_eq]
    have hv : validM (0, 0, 0, ()) = true := rfl
    have hne : (ByteArray.toList (textM (0, 0, 0, ())) == ByteArray.toList (mkB (bts t))) = false := by
      rw [tol, tol, bts_mkB]
      unfold textM
      rw [hv, cond_true, bts_mkB]
      cases hq : textL (0, 0, 0, ()) == bts t with
      | false => rfl
      | true =>
        have he : textL (0, 0, 0, ()) = bts t := by simpa using hq
        have := parse_complete hv
        rw [he, hp] at this
        cases this
    rw [hne]
    rfl

theorem moveTexts_core {m : MoveD} {t : ByteArray} {Fw : ({S : Type} → (Bool → Option S) → Option S)} {Ft Fr : (MoveD → {S : Type} → (ByteArray → Option S) → Option S)} {Fp : (ByteArray → {S : Type} → (MoveD → Bool → Option S) → Option S)} {S : Type} (k : Bool → Option S)
    (h1 : ∀ {S : Type} (k : Bool → Option S), Fw k = k true) (h2 : ∀ {S : Type} (k : ByteArray → Option S), Ft m k = k (textM m)) (h3 : ∀ {S : Type} (k : ByteArray → Option S), Fr m k = k (textM m))
    (h4 : ∀ {S : Type} (k : MoveD → Bool → Option S), Fp (textM m) k = bif validM m then k m true else k (0, 0, 0, ()) false) {rest : Option S} (hr : t.size ≤ 50 → rest = k true) :
    (Fw fun z0 => bif !z0 then k false else bif decide (((t.size : Nat) : Int) > 50) then k true else Ft m fun z1 => Fr m fun z2 => bif !(ByteArray.toList z1 == ByteArray.toList z2) then k false else Fp z1 fun z3 z4 =>
      bif !(z4 == (!(ByteArray.toList z1 == ByteArray.toList (ByteArray.mk (List.toArray []))))) then k false else bif z4 then (bif !(Ty.beq (.pair (.int .i64) (.pair (.int .i64) (.pair (.int .i64) .unit))) z3 m) then k false else rest) else rest) = k true := by
  refine (h1 _).trans ?_
  simp only [Bool.not_true, cond_false]
  by_cases hs : t.size ≤ 50
  · rw [show decide (((t.size : Nat) : Int) > 50) = false by simp; omega, cond_false]
    refine (h2 _).trans ((h3 _).trans ?_)
    rw [show (ByteArray.toList (textM m) == ByteArray.toList (textM m)) = true by simp]
    simp only [Bool.not_true, cond_false]
    refine (h4 _).trans ?_
    rw [hr hs]
    cases hv : validM m with
    | true =>
      have : (ByteArray.toList (textM m) == ByteArray.toList (ByteArray.mk (List.toArray []))) = false := by
        rw [tol, tol, empty_mk, bts_mkB]
        unfold textM
        rw [hv, cond_true, bts_mkB]
        rfl
      rw [this]
      simp only [cond_true, beqM_refl]
      rfl
    | false =>
      have : (ByteArray.toList (textM m) == ByteArray.toList (ByteArray.mk (List.toArray []))) = true := by
        rw [tol, tol, empty_mk]
        unfold textM
        rw [hv, cond_false]
        simp
      rw [this]
      rfl
  · rw [show decide (((t.size : Nat) : Int) > 50) = true by simp; omega]
    rfl

end Go.Proofs.YteeiccpbiniljaaGreatDoor
