/- MoveOrder: of any two unlike moves just one is ahead, and of three none goes round; for every three moves, with no condition. -/
import Derived.Test.YtidjjbhadehclaaT1
import Derived.Test.YtidjjbhadehclaaL1
import Derived.Test.YtidjjbhadehclaaAm5
import Derived.Test.YtidjjbhadehclaaRows
set_option linter.all false
set_option maxRecDepth 100000
namespace Go.Proofs.Ytidjjbhadehclaa.moveOrder
open Go Am Go.ChangeShapes Go.WideShapes Go.ChangeAt Go.RowKit

theorem own : ownKnob Try.prog.godebug = none := by kernel_rfl

abbrev moveT : Ty := .pair (.int .i64) (.pair (.int .i64) (.pair (.int .i64) .unit))

theorem move_ok : EqOk Try.prog 28 moveT ∧ Try.prog.cellsOf 28 = moveT.size := eqOk_of tbl_ok (t := 28) (by kernel_rfl) (by kernel_rfl) (by kernel_rfl)

theorem run_eq (F : MoveD → MoveD → MoveD → {S : Type} → (Bool → Option S) → Option S) (a b c : MoveD) : (W_law09_MoveOrder F).run (R := AV) [.val moveT a, .val moveT b, .val moveT c] [] (fun v _ => some v) = F a b c (fun z => some (.val .bool z)) := by kernel_rfl

theorem run_true (a b c : MoveD) : (W_law09_MoveOrder (@F_law09_MoveOrder)).run (R := AV) [.val moveT a, .val moveT b, .val moveT c] [] (fun v _ => some v) = some (.val .bool true) := by
  rw [run_eq (@F_law09_MoveOrder) a b c, order_eq]

theorem contract (H : Type) (enc : TypeId × Value → H) (W : World) (base : Nat) (args : Array Value) (ds gs : List (DataW H)) (before : List MemPlace)
    (hval : ∀ (j : Nat) t v, Try.f4.params[j]? = some t → args[j]? = some v → Value.okWide Try.prog W .any base t v)
    (hW : DataW.Whole enc Try.prog Try.f4.params.toList Rows.moveOrderSpec.vars false W args.toList ds gs before) :
    Calls Try.prog 4 args W fun e W' => ∃ v, e = .returned v ∧ Rows.moveOrderSpec.post enc Try.prog Try.f4 false true false false W args v W' := by
  have hW' := hW
  obtain ⟨p, q, hA0, hV, rfl, hfz, hnd⟩ := hW
  have hA : DataW.TrodAll enc Try.prog W 0 (fun _ => true) true [28, 28, 28] args.toList ds p := hA0
  obtain ⟨rfl, rfl⟩ := trodVars_none hV
  obtain ⟨v0, vs0, d0, ds0, p0, q0, hargs, rfl, rfl, h0, r0⟩ := trodAll_cons hA
  obtain ⟨v1, vs1, d1, ds1, p1, q1, rfl, rfl, rfl, h1, r1⟩ := trodAll_cons r0
  obtain ⟨v2, vs2, d2, ds2, p2, q2, rfl, rfl, rfl, h2, r2⟩ := trodAll_cons r1
  obtain ⟨rfl, rfl, rfl⟩ := trodAll_nil r2
  obtain rfl : args = #[v0, v1, v2] := by cases args; simp_all
  obtain ⟨rfl, ⟨a, ha, ra⟩, k0⟩ := arg_open move_ok.1 move_ok.2 rfl (hval 0 28 v0 rfl rfl) h0
  obtain ⟨rfl, ⟨b, hb, rb⟩, k1⟩ := arg_open move_ok.1 move_ok.2 rfl (hval 1 28 v1 rfl rfl) h1
  obtain ⟨rfl, ⟨c, hc, rc⟩, k2⟩ := arg_open move_ok.1 move_ok.2 rfl (hval 2 28 v2 rfl rfl) h2
  have hcall := call_true good_law09_MoveOrder (args := [.val moveT a, .val moveT b, .val moveT c]) (run_true a b c) W
    (vs := [v0, v1, v2]) (RVs_cons (ra ..) (RVs_cons (rb ..) (RVs_cons (rc ..) rfl)))
  refine hcall.mono ?_
  rintro e W' ⟨rfl, hk⟩
  refine ⟨_, rfl, post_true (ds := [d0, d1, d2]) rfl hW' (trodAll_cons_mk (shut_bool Try.underlying4 _) trodAll_mk0) ?_ hk rfl⟩
  exact trodAll_cons_mk (k0 ..) (trodAll_cons_mk (k1 ..) (trodAll_cons_mk (k2 ..) trodAll_mk0))

set_option maxRecDepth 100000 in
theorem lifted (os : Os) (started : os.Started) (H : Type) (enc : TypeId × Value → H) :
    ReturnsInHanded {} Try.checked os 4 .any (Rows.moveOrderSpec.pre6 enc Try.prog Try.f4 Rows.moveOrderRow.domain false) (Rows.moveOrderSpec.post enc Try.prog Try.f4 false true false false) := by
  refine returnsInHanded_of_change (C := Try.checked) own started (by kernel_rfl) Try.func4
    (ChangeSpec.witness6 (enc := enc) (C := Try.checked) false ⟨#[], #[.agg #[.int .i64 0, .int .i64 0, .int .i64 0], .agg #[.int .i64 0, .int .i64 0, .int .i64 0], .agg #[.int .i64 0, .int .i64 0, .int .i64 0]], []⟩ 8 (by kernel_rfl) (by kernel_rfl) (by kernel_rfl) (by kernel_rfl)) ?_
  intro W base args ds gs before hval hW hcnd _
  exact contract H enc W base args ds gs before hval hW

theorem over : Rows.moveOrderRow.holds Try.pinned (OpenSpec.ofChange Rows.moveOrderSpec) :=
  OpenClaim.holds_of_wide 4 Try.f4 rfl rfl rfl rfl rfl rfl rfl ⟨rfl, rfl, rfl, rfl, rfl⟩ rfl rfl rfl rfl rfl (by kernel_rfl) Try.func4 (by kernel_rfl)
    (of_decide_eq_true (by kernel_rfl)) (by unfold Func.isWrapper; first | (rw [if_pos (by decide +kernel)]; kernel_rfl) | (rw [if_neg (by decide +kernel)]; exact ⟨rfl, rfl⟩))
    (fun os started H enc _ => lifted os started H enc)

/-- The statement. -/
theorem proved : Rows.MoveOrderSaid := over
#print axioms proved

end Go.Proofs.Ytidjjbhadehclaa.moveOrder
