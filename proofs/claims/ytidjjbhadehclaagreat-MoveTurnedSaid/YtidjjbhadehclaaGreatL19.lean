/- Plain law: MoveTurned. -/
import Derived.Test.YtidjjbhadehclaaGreatL18
set_option linter.all false
set_option maxRecDepth 100000
namespace Go.Proofs.YtidjjbhadehclaaGreat
open Go Am

/-! ### boards are written turned -/
def wr (b : List Int) : Nat → Nat → List Int → List Int
  | _, 0, out => out
  | i, d + 1, out => wr b (i + 1) d (out.set (fl (i : Int)).toNat (0 - b.getD i 0))
theorem wr_len (b : List Int) : ∀ (d i : Nat) (out : List Int), (wr b i d out).length = out.length
  | 0, _, _ => rfl
  | d + 1, i, out => by simp only [wr, wr_len b d]; simp
theorem wr_at (b : List Int) {s : Int} (hs : 0 ≤ s ∧ s < 64) : ∀ (d i : Nat) (out : List Int), i + d = 64 → out.length = 64 → (wr b i d out).getD s.toNat 0 = if (i : Int) ≤ fl s then 0 - b.getD (fl s).toNat 0 else out.getD s.toNat 0
  | 0, i, out, h, hl => by
    have := fl_in hs
    rw [if_neg (by omega)]; rfl
  | d + 1, i, out, h, hl => by
    have b1 := fl_in hs
    have b2 := fl_in (s := (i : Int)) (by omega)
    simp only [wr]
    rw [wr_at b hs d (i + 1) _ (by omega) (by simp [hl]), getD_set _ _ _ _ (by omega)]
    by_cases he : fl s = (i : Int)
    · have : s = fl (i : Int) := by rw [← he, fl_fl hs]
      rw [if_neg (by omega), if_pos (by rw [this]), if_pos (by omega)]
      congr 2
      omega
    · have : ¬ (fl (i : Int)).toNat = s.toNat := by
        intro h2
        apply he
        rw [show s = fl (i : Int) by omega, fl_fl (by omega)]
      rw [if_neg this]
      by_cases h3 : (i : Int) ≤ fl s
      · rw [if_pos h3, if_pos (by omega)]
      · rw [if_neg h3, if_neg (by omega)]
theorem wr_tB (b : List Int) (out : List Int) (hl : out.length = 64) : wr b 0 64 out = tB b := by
  apply ext64 (by rw [wr_len, hl]) (tB_len b)
  intro s h1 h2
  have := fl_in ⟨h1, h2⟩
  rw [wr_at b ⟨h1, h2⟩ 64 0 out rfl hl, if_pos (by omega), tB_at b ⟨h1, h2⟩]

def xorB : Bool := (List.range 64).all fun s => bXor .i64 (s : Nat) 56 == fl (s : Nat)
theorem xor_all : xorB = true := by kernel_rfl
theorem xor_fl {s : Int} (h : 0 ≤ s ∧ s < 64) : bXor .i64 s 56 = fl s := by
  have hT := xor_all
  unfold xorB at hT
  rw [List.all_eq_true] at hT
  have h1 := hT s.toNat (by simp; omega)
  rw [Int.toNat_of_nonneg h.1] at h1
  simpa using h1

theorem N_board_Turned_0_eq {b : List Int} (hm : Mb b) (a2 : List Int) : ∀ (d i n : Nat) (out : List Int), i + d = 64 → d < n → ∀ {S : Type} (kx : List Int → List Int → Option S) (kr : Option S),
    N_board_Turned_0 n b (i : Int) a2 out kx kr = kx a2 (wr b i d out)
  | 0, i, n + 1, out, hi, hn, S, kx, kr => by
    obtain rfl : i = 64 := by omega
    rw [N_board_Turned_0_succ]
    rfl
  | d + 1, i, n + 1, out, hi, hn, S, kx, kr => by
    obtain ⟨e1, e2, e3⟩ := scan 64 (by omega) hi
    have bi : 0 ≤ (i : Int) ∧ (i : Int) < 64 := by omega
    have hv := hm.men i
    rw [N_board_Turned_0_succ]
    unfold R_board_Turned_0
    simp only [e2, e3, cond_true, square_Flip_eq, rightS_iff.2 bi, xor_fl bi, inB_true (n := 64) (fl_in bi), Int.toNat_natCast]
    rw [show decide ((i : Int) < 64) = true from e1, w8 (x := 0 - b.getD i 0) (by omega)]
    simp only [cond_true, N_board_Turned_0_eq hm a2 d (i + 1) n _ (by omega) (by omega)]
    rfl

theorem board_Turned_eq {b : List Int} (hm : Mb b) {S : Type} (k : List Int → Option S) : F_board_Turned b k = k (tB b) := by
  unfold F_board_Turned R_board_Turned
  rw [L_board_Turned_0_N]
  have := N_board_Turned_0_eq hm (List.replicate 64 0) 64 0 (100 + b.length + (List.replicate 64 (0 : Int)).length + (List.replicate 64 (0 : Int)).length) (List.replicate 64 0) rfl (by omega) (fun z0 z1 => k z1) Option.none
  refine Eq.trans this ?_
  rw [wr_tB _ _ (by simp)]

theorem find_fl {s : Int} (h : 0 ≤ s ∧ s < 64) : findS (fileS s) (IntKind.wrap .i64 (7 - rankS s)) = fl s := by
  rw [fileS_of h, rankS_of h, w64 (by omega)]
  unfold findS
  rw [onS_iff.2 (by omega), onS_iff.2 (by omega)]
  rfl

theorem N_ref03_Turned_0_eq {b : List Int} (hm : Mb b) (a2 : List Int) : ∀ (d i n : Nat) (out : List Int), i + d = 64 → d < n → ∀ {S : Type} (kx : List Int → List Int → Option S) (kr : Option S),
    N_ref03_Turned_0 n (i : Int) b a2 out kx kr = kx a2 (wr b i d out)
  | 0, i, n + 1, out, hi, hn, S, kx, kr => by
    obtain rfl : i = 64 := by omega
    rw [N_ref03_Turned_0_succ]
    rfl
  | d + 1, i, n + 1, out, hi, hn, S, kx, kr => by
    obtain ⟨e1, e2, e3⟩ := scan 64 (by omega) hi
    have bi : 0 ≤ (i : Int) ∧ (i : Int) < 64 := by omega
    have hv := hm.men i
    rw [N_ref03_Turned_0_succ]
    unfold R_ref03_Turned_0
    simp only [e2, e3, cond_true, ref01_File_eq, ref01_Rank_eq, ref01_Find_eq, find_fl bi, inB_true (n := 64) (fl_in bi), Int.toNat_natCast]
    rw [show decide ((i : Int) < 64) = true from e1, w8 (x := 0 - b.getD i 0) (by omega)]
    simp only [cond_true, N_ref03_Turned_0_eq hm a2 d (i + 1) n _ (by omega) (by omega)]
    rfl

theorem ref03_Turned_eq {b : List Int} (hm : Mb b) {S : Type} (k : List Int → Option S) : F_ref03_Turned b k = k (tB b) := by
  unfold F_ref03_Turned R_ref03_Turned
  rw [L_ref03_Turned_0_N]
  have := N_ref03_Turned_0_eq hm (List.replicate 64 0) 64 0 (100 + b.length + (List.replicate 64 (0 : Int)).length + (List.replicate 64 (0 : Int)).length) (List.replicate 64 0) rfl (by omega) (fun z0 z1 => k z1) Option.none
  refine Eq.trans this ?_
  rw [wr_tB _ _ (by simp)]

theorem pos_Turned_eq {p : PosD} (hm : Mb p.1) (ht : p.2.1 = 0 ∨ p.2.1 = 1) (hc : 0 ≤ p.2.2.1 ∧ p.2.2.1 ≤ 15) (he : -1 ≤ p.2.2.2.1 ∧ p.2.2.2.1 < 64) {S : Type} (k : PosD → Option S) : F_pos_Turned p k = k (tP p) := by
  unfold F_pos_Turned R_pos_Turned
  rw [show ∀ {S : Type} (k : PosD → Option S), F_pos_none k = k ((List.replicate 64 0), 0, 0, (-1), ()) from fun _ => rfl]
  simp only [board_Turned_eq hm, men_Other_eq, square_Flip_eq, (castT_of hc).pg, other_turn ht]
  cases h0 : decide (p.2.2.2.1 ≥ 0) with
  | false =>
    have : p.2.2.2.1 < 0 := by have := of_decide_eq_false h0; omega
    simp only [cond_false]
    unfold tP
    rw [tE_no this]
  | true =>
    have h1 : 0 ≤ p.2.2.2.1 := of_decide_eq_true h0
    rw [rightS_iff.2 ⟨h1, he.2⟩, xor_fl ⟨h1, he.2⟩]
    simp only [cond_true]
    unfold tP
    rw [tE_sq h1]

theorem ref08_Turned_eq {p : PosD} (hm : Mb p.1) (ht : p.2.1 = 0 ∨ p.2.1 = 1) (hc : 0 ≤ p.2.2.1 ∧ p.2.2.1 ≤ 15) (he : -1 ≤ p.2.2.2.1 ∧ p.2.2.2.1 < 64) {S : Type} (k : PosD → Option S) : F_ref08_Turned p k = k (tP p) := by
  unfold F_ref08_Turned R_ref08_Turned
  simp only [ref03_Turned_eq hm, ref01_File_eq, ref01_Rank_eq, ref01_Find_eq, (castT_of hc).rf]
  rw [w64 (x := 1 - p.2.1) (by omega)]
  cases h0 : decide (p.2.2.2.1 ≥ 0) with
  | false =>
    have : p.2.2.2.1 < 0 := by have := of_decide_eq_false h0; omega
    simp only [cond_false]
    unfold tP
    rw [tE_no this]
  | true =>
    have h1 : 0 ≤ p.2.2.2.1 := of_decide_eq_true h0
    rw [find_fl ⟨h1, he.2⟩]
    simp only [cond_true]
    unfold tP
    rw [tE_sq h1]

/-! ### the board behind a move -/
theorem make_in {k t : Int} : -6 ≤ makeM k t ∧ makeM k t ≤ 6 := makeM_bounds k t
theorem do_mb {p : PosD} {m : MoveD} (hb : Bd p.1) (hw : wrongP p = 0) (h : Sq p m) : Mb (do4 p m) := by
  have b1 := rightS_iff.1 h.fr
  have b2 := rightS_iff.1 h.to
  have m0 : Mb p.1 := mb_of hb.1 (wrongB_spec (wrong_spec hw).1).1
  have m1 : Mb (do1 p m) := by
    unfold do1
    cases hg : decide (takesP p m ≥ 0) with
    | false => exact m0
    | true => have := takes_bounds h hg; exact m0.set (by omega) (by omega)
  have m2 : Mb (do2 p m) := (m1.set (by omega) (by omega)).set (by omega) (m0.men _)
  have m3 : Mb (do3 p m) := by
    unfold do3
    cases m.2.2.1 != 0 with
    | false => exact m2
    | true => exact m2.set (by omega) (makeM_bounds _ _)
  have hcs : ∀ {mid rook : Int}, 0 ≤ mid ∧ mid < 64 → 0 ≤ rook ∧ rook < 64 → Mb (castled (do3 p m) mid rook) := fun {mid rook} h1 h2 => (m3.set (by omega) (m3.men _)).set (by omega) (by omega)
  unfold do4
  cases hq : castleP p m != 0 with
  | false => exact m3
  | true =>
    obtain ⟨_, q2, q3⟩ := castle_spec (p := p) (m := m) (by simpa using hq)
    have ht := h.turn
    rcases q3 with ⟨q3, _⟩ | ⟨q3, _⟩
    · rw [show decide (m.2.1 < m.1) = false by simp; omega]
      exact hcs (by omega) (by omega)
    · rw [show decide (m.2.1 < m.1) = true by simp; omega]
      exact hcs (by omega) (by omega)

section
variable {Fw : ({S : Type} → (Bool → Option S) → Option S)} {Fm : (PosD → MoveD → {S : Type} → (PosD → Int → Option S) → Option S)} {Fp : (PosD → {S : Type} → (PosD → Option S) → Option S)} {F8 : (PosD → {S : Type} → (PosD → Option S) → Option S)} {Fr : (PosD → {S : Type} → (Int → Option S) → Option S)} {Ff : (PosD → MoveD → {S : Type} → (Bool → Option S) → Option S)}

theorem turned_wrong (p : PosD) (m : MoveD) (hw : ∀ {S : Type} (k : Bool → Option S), Fw k = k true) {w : Int} (hr : ∀ {S : Type} (k : Int → Option S), Fr p k = k w) (h : (w != 0) = true) {S : Type} (k : Bool → Option S) :
    R_law09_MoveTurned Fw Fm Fp F8 Fr Ff p m k = k true := by
  unfold R_law09_MoveTurned
  refine (hw _).trans ?_
  show Fr p _ = _
  refine (hr _).trans ?_
  show (bif w != 0 then k true else _) = _
  rw [h]; rfl
theorem turned_form (p : PosD) (m : MoveD) (hw : ∀ {S : Type} (k : Bool → Option S), Fw k = k true) (hr : ∀ {S : Type} (k : Int → Option S), Fr p k = k 0) (hf : ∀ {S : Type} (k : Bool → Option S), Ff p m k = k false) {S : Type} (k : Bool → Option S) :
    R_law09_MoveTurned Fw Fm Fp F8 Fr Ff p m k = k true := by
  unfold R_law09_MoveTurned
  refine (hw _).trans ?_
  show Fr p _ = _
  refine (hr _).trans ?_
  show Ff p m _ = _
  exact (hf _)
theorem turned_made (p : PosD) (m : MoveD) (hw : ∀ {S : Type} (k : Bool → Option S), Fw k = k true) (hr : ∀ {S : Type} (k : Int → Option S), Fr p k = k 0) (hf : ∀ {S : Type} (k : Bool → Option S), Ff p m k = k true)
    {q t u : PosD} (h1 : ∀ {S : Type} (k : PosD → Int → Option S), Fm p m k = k q 0) (h2 : ∀ {S : Type} (k : PosD → Option S), Fp p k = k t)
    (h3 : ∀ {S : Type} (k : PosD → Int → Option S), Fm t ((Am.bXor .i64 m.1 56), (Am.bXor .i64 m.2.1 56), m.2.2.1, ()) k = k u 0) (h4 : ∀ {S : Type} (k : PosD → Option S), F8 q k = k u) {S : Type} (k : Bool → Option S) :
    R_law09_MoveTurned Fw Fm Fp F8 Fr Ff p m k = k true := by
  unfold R_law09_MoveTurned
  refine (hw _).trans ?_
  show Fr p _ = _
  refine (hr _).trans ?_
  show Ff p m _ = _
  refine (hf _).trans ?_
  show Fm p m _ = _
  refine (h1 _).trans ?_
  refine (h2 _).trans ?_
  refine (h3 _).trans ?_
  show F8 q _ = _
  refine (h4 _).trans ?_
  show k _ = _
  rw [pos_refl]
end

theorem turned_eq {p : PosD} (hb : Bd p.1) (m : MoveD) {S : Type} (k : Bool → Option S) : F_law09_MoveTurned p m k = k true := by
  unfold F_law09_MoveTurned
  cases hw : wrongP p != 0 with
  | true => exact turned_wrong p m wakesZ (fun k => ref08_Wrong_eq hb k) hw k
  | false =>
    have hw' : wrongP p = 0 := by simpa using hw
    have ht := wrong_turn hw'
    have hr : ∀ {S : Type} (k : Int → Option S), F_ref08_Wrong p k = k 0 := fun k => by rw [ref08_Wrong_eq hb, hw']
    cases hf : formedP p m with
    | false => exact turned_form p m wakesZ hr (fun k => by rw [ref09_Formed_eq hb ht, hf]) k
    | true =>
      have h := formed_spec hb hw' hf
      have b1 := rightS_iff.1 h.fr
      have b2 := rightS_iff.1 h.to
      obtain ⟨_, hc, he, _⟩ := wrong_spec hw'
      have m0 : Mb p.1 := mb_of hb.1 (wrongB_spec (wrong_spec hw').1).1
      have hD : Mb (doP p m).1 ∧ ((doP p m).2.1 = 0 ∨ (doP p m).2.1 = 1) ∧ (0 ≤ (doP p m).2.2.1 ∧ (doP p m).2.2.1 ≤ 15) ∧ (-1 ≤ (doP p m).2.2.2.1 ∧ (doP p m).2.2.2.1 < 64) := by
        rw [doP_eq h hc]
        exact ⟨do_mb hb hw' h.toSq, by show 1 - p.2.1 = 0 ∨ 1 - p.2.1 = 1; omega, (castR_fl hc b1 b2).2, (ep_fl h.toSq).2⟩
      exact turned_made p m wakesZ hr (fun k => by rw [ref09_Formed_eq hb ht, hf]) (q := doP p m) (t := tP p) (u := tP (doP p m))
        (fun k => by rw [move_Make_eq hb, hw', hf]; rfl)
        (fun k => pos_Turned_eq m0 ht hc he k)
        (fun k => by
          rw [xor_fl b1, xor_fl b2, show ((fl m.1, fl m.2.1, m.2.2.1, ()) : MoveD) = tM m from rfl, move_Make_eq (p := tP p) m0.tB.bd (tM m), wrong_fl hb hw', formed_fl ht hf, doP_fl hb hw' hf]; rfl)
        (fun k => ref08_Turned_eq hD.1 hD.2.1 hD.2.2.1 hD.2.2.2 k) k

end Go.Proofs.YtidjjbhadehclaaGreat
