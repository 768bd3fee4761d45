/- Plain law: MoveTurned. -/
import Derived.Test.YtaldkopkfdgngaaGreatDoorL18
set_option linter.all false
set_option maxRecDepth 100000
namespace Go.Proofs.YtaldkopkfdgngaaGreatDoor
open Go Am

def wr (b : List Int) : Nat → Nat → List Int → List Int
  | _, 0, out => out
  | i, d + 1, out => wr b (i + 1) d (out.set (fl (i : Int)).toNat (0 - b.getD i 0))
theorem wr_len (b : List Int) : ∀ (d i : Nat) (out : List Int), (wr b i d out).length = out.length
  | 0, _, _ => rfl
  | d + 1, i, out => by simp only [wr, wr_len b d]; simp
theorem wr_at (b : List Int) {s : Int} (hs : 0 ≤ s ∧ s < 64) : ∀ (d i : Nat) (out : List Int), i + d = 64 → out.length = 64 → (wr b i d out).getD s.toNat 0 = if (i : Int) ≤ fl s then 0 - b.getD (fl s).toNat 0 else out.getD s.toNat 0
  | 0, i, out, h, hl => by
    have := fl_in hs
    rw [if_neg (by omega)]; rfl
  | d + 1, i, out, h, hl => by
    have b1 := fl_in hs
    have b2 := fl_in (s := (i : Int)) (by omega)
    simp only [wr]
    rw [wr_at b hs d (i + 1) _ (by omega) (by simp [hl]), getD_set _ _ _ _ (by omega)]
    by_cases he : fl s = (i : Int)
    · have : s = fl (i : Int) := by rw [← he, fl_fl hs]
      rw [if_neg (by omega), if_pos (by rw [this]), if_pos (by omega)]
      congr 2
      omega
    · have : ¬ (fl (i : Int)).toNat = s.toNat := by
        intro h2
        apply he
        rw [show s = fl (i : Int) by omega, fl_fl (by omega)]
      rw [if_neg this]
      by_cases h3 : (i : Int) ≤ fl s
      · rw [if_pos h3, if_pos (by omega)]
      · rw [if_neg h3, if_neg (by omega)]
theorem wr_tB (b : List Int) (out : List Int) (hl : out.length = 64) : wr b 0 64 out = tB b := by
  apply ext64 (by rw [wr_len, hl]) (tB_len b)
  intro s h1 h2
  have := fl_in ⟨h1, h2⟩
  rw [wr_at b ⟨h1, h2⟩ 64 0 out rfl hl, if_pos (by omega), tB_at b ⟨h1, h2⟩]

def xorB : Bool := (List.range 64).all fun s => bXor .i64 (s : Nat) 56 == fl (s : Nat)
theorem xor_all : xorB = true := by kernel_rfl
theorem xor_fl {s : Int} (h : 0 ≤ s ∧ s < 64) : bXor .i64 s 56 = fl s := by
  have hT := xor_all
  unfold xorB at hT
  rw [List.all_eq_true] at hT
  have h1 := hT s.toNat (by simp; omega)
  rw [Int.toNat_of_nonneg h.1] at h1
  simpa using h1

theorem N_board_Turned_0_eq {b : List Int} (hm : Mb b) (a2 : List Int) : ∀ (d i n : Nat) (out : List Int), i + d = 64 → d < n → ∀ {S : Type} (kx : List Int → List Int → Option S) (kr : Option S),
    N_board_Turned_0 n b (i : Int) a2 out kx kr = kx a2 (wr b i d out)
  | 0, i, n + 1, out, hi, hn, S, kx, kr => by
    obtain rfl : i = 64 := by omega
    rw [N_board_Turned_0_succ]
    rfl
  | d + 1, i, n + 1, out, hi, hn, S, kx, kr => by
    obtain ⟨e1, e2, e3⟩ := scan 64 (by omega) hi
    have bi : 0 ≤ (i : Int) ∧ (i : Int) < 64 := by omega
    have hv := hm.men i
    rw [N_board_Turned_0_succ]
    unfold R_board_Turned_0
    simp only [e2, e3, cond_true, square_Flip_eq, rightS_iff.2 bi, xor_fl bi, inB_true (n := 64) (fl_in bi), Int.toNat_natCast]
    rw [show decide ((i : Int) < 64) = true from e1, w8 (x := 0 - b.getD i 0) (by omega)]
    simp only [cond_true, N_board_Turned_0_eq hm a2 d (i + 1) n _ (by omega) (by omega)]
    rfl

theorem board_Turned_eq {b : List Int} (hm : Mb b) {S : Type} (k : List Int → Option S) : F_board_Turned b k = k (tB b) := by
  unfold F_board_Turned R_board_Turned
  rw [L_board_Turned_0_N]
  have := N_board_Turned_0_eq hm (List.replicate 64 0) 64 0 (100 + b.length + (List.replicate 64 (0 : Int)).length + (List.replicate 64 (0 : Int)).length) (List.replicate 64 0) rfl (by omega) (fun z0 z1 => k z1) Option.none
  refine Eq.trans this ?_
  rw [wr_tB _ _ (by simp)]

theorem pos_Turned_eq {p : PosD} (hm : Mb p.1) (ht : p.2.1 = 0 ∨ p.2.1 = 1) (hc : 0 ≤ p.2.2.1 ∧ p.2.2.1 ≤ 15) (he : -1 ≤ p.2.2.2.1 ∧ p.2.2.2.1 < 64) {S : Type} (k : PosD → Option S) : F_pos_Turned p k = k (tP p) := by
  unfold F_pos_Turned R_pos_Turned
  rw [show ∀ {S : Type} (k : PosD → Option S), F_pos_none k = k ((List.replicate 64 0), 0, 0, (-1), ()) from fun _ => rfl]
  simp only [board_Turned_eq hm, men_Other_eq, square_Flip_eq, (castT_of hc).pg, other_turn ht]
  cases h0 : decide (p.2.2.2.1 ≥ 0) with
  | false =>
    have : p.2.2.2.1 < 0 := by have := of_decide_eq_false h0; omega
    simp only [cond_false]
    unfold tP
    rw [tE_no this]
  | true =>
    have h1 : 0 ≤ p.2.2.2.1 := of_decide_eq_true h0
    rw [rightS_iff.2 ⟨h1, he.2⟩, xor_fl ⟨h1, he.2⟩]
    simp only [cond_true]
    unfold tP
    rw [tE_sq h1]

section
variable {Fw : ({S : Type} → (Bool → Option S) → Option S)} {Fm : (PosD → MoveD → {S : Type} → (PosD → Int → Option S) → Option S)} {Fp : (PosD → {S : Type} → (PosD → Option S) → Option S)} {F8 : (PosD → {S : Type} → (PosD → Option S) → Option S)} {Fr : (PosD → {S : Type} → (Int → Option S) → Option S)} {Ff : (PosD → MoveD → {S : Type} → (Bool → Option S) → Option S)}

end

end Go.Proofs.YtaldkopkfdgngaaGreatDoor

