/- MoveMen: behind a formed move there are as many men, less one if it took one; for every position and every move, with no condition. -/
import Derived.Test.YtidjjbhadehclaaT1
import Derived.Test.YtidjjbhadehclaaL7
import Derived.Test.YtidjjbhadehclaaAm5
import Derived.Test.YtidjjbhadehclaaRows
set_option linter.all false
set_option maxRecDepth 100000
namespace Go.Proofs.Ytidjjbhadehclaa.moveMen
open Go Am Go.ChangeShapes Go.WideShapes Go.ChangeAt Go.RowKit

theorem own : ownKnob Try.prog.godebug = none := by kernel_rfl

abbrev moveT : Ty := .pair (.int .i64) (.pair (.int .i64) (.pair (.int .i64) .unit))
abbrev posT : Ty := .pair (.arr 64 (.int .i8)) (.pair (.int .i64) (.pair (.int .i64) (.pair (.int .i64) .unit)))

theorem move_ok : EqOk Try.prog 28 moveT ∧ Try.prog.cellsOf 28 = moveT.size := eqOk_of tbl_ok (t := 28) (by kernel_rfl) (by kernel_rfl) (by kernel_rfl)
theorem pos_ok : EqOk Try.prog 26 posT ∧ Try.prog.cellsOf 26 = posT.size := eqOk_of tbl_ok (t := 26) (by kernel_rfl) (by kernel_rfl) (by kernel_rfl)

theorem bd_of {p : PosD} (h : posT.wf p) : Bd p.1 := by
  refine ⟨h.1.1, fun x hx => ?_⟩
  have := h.1.2 x hx
  simpa [Ty.wf, Lit.wf, IntKind.min, IntKind.max, IntKind.signed, IntKind.bits] using this

theorem run_eq (F : PosD → MoveD → {S : Type} → (Bool → Option S) → Option S) (a : PosD) (b : MoveD) : (W_law09_MoveMen F).run (R := AV) [.val posT a, .val moveT b] [] (fun v _ => some v) = F a b (fun z => some (.val .bool z)) := by kernel_rfl

theorem run_true (a : PosD) (ha : posT.wf a) (b : MoveD) : (W_law09_MoveMen (@F_law09_MoveMen)).run (R := AV) [.val posT a, .val moveT b] [] (fun v _ => some v) = some (.val .bool true) := by
  rw [run_eq (@F_law09_MoveMen) a b, men_eq (bd_of ha)]

theorem contract (H : Type) (enc : TypeId × Value → H) (W : World) (base : Nat) (args : Array Value) (ds gs : List (DataW H)) (before : List MemPlace)
    (hval : ∀ (j : Nat) t v, Try.f3.params[j]? = some t → args[j]? = some v → Value.okWide Try.prog W .any base t v)
    (hW : DataW.Whole enc Try.prog Try.f3.params.toList Rows.moveMenSpec.vars false W args.toList ds gs before) :
    Calls Try.prog 3 args W fun e W' => ∃ v, e = .returned v ∧ Rows.moveMenSpec.post enc Try.prog Try.f3 false true false false W args v W' := by
  have hW' := hW
  obtain ⟨p, q, hA0, hV, rfl, hfz, hnd⟩ := hW
  have hA : DataW.TrodAll enc Try.prog W 0 (fun _ => true) true [26, 28] args.toList ds p := hA0
  obtain ⟨rfl, rfl⟩ := trodVars_none hV
  obtain ⟨v0, vs0, d0, ds0, p0, q0, hargs, rfl, rfl, h0, r0⟩ := trodAll_cons hA
  obtain ⟨v1, vs1, d1, ds1, p1, q1, rfl, rfl, rfl, h1, r1⟩ := trodAll_cons r0
  obtain ⟨rfl, rfl, rfl⟩ := trodAll_nil r1
  obtain rfl : args = #[v0, v1] := by cases args; simp_all
  obtain ⟨rfl, ⟨a, ha, ra⟩, k0⟩ := arg_open pos_ok.1 pos_ok.2 rfl (hval 0 26 v0 rfl rfl) h0
  obtain ⟨rfl, ⟨b, hb, rb⟩, k1⟩ := arg_open move_ok.1 move_ok.2 rfl (hval 1 28 v1 rfl rfl) h1
  have hcall := call_true good_law09_MoveMen (args := [.val posT a, .val moveT b]) (run_true a ha b) W
    (vs := [v0, v1]) (RVs_cons (ra ..) (RVs_cons (rb ..) rfl))
  refine hcall.mono ?_
  rintro e W' ⟨rfl, hk⟩
  refine ⟨_, rfl, post_true (ds := [d0, d1]) rfl hW' (trodAll_cons_mk (shut_bool Try.underlying4 _) trodAll_mk0) ?_ hk rfl⟩
  exact trodAll_cons_mk (k0 ..) (trodAll_cons_mk (k1 ..) trodAll_mk0)

theorem lifted (os : Os) (started : os.Started) (H : Type) (enc : TypeId × Value → H) :
    ReturnsInHanded {} Try.checked os 3 .any (Rows.moveMenSpec.pre6 enc Try.prog Try.f3 Rows.moveMenRow.domain false) (Rows.moveMenSpec.post enc Try.prog Try.f3 false true false false) := by
  refine returnsInHanded_of_change (C := Try.checked) own started (by kernel_rfl) Try.func3
    (ChangeSpec.witness6 (enc := enc) (C := Try.checked) false ⟨#[], #[.agg (Array.replicate 64 (.int .i8 0) ++ #[.int .i64 0, .int .i64 0, .int .i64 0]), .agg #[.int .i64 0, .int .i64 0, .int .i64 0]], []⟩ 8 (by kernel_rfl) (by kernel_rfl) (by kernel_rfl) (by kernel_rfl)) ?_
  intro W base args ds gs before hval hW hcnd _
  exact contract H enc W base args ds gs before hval hW

theorem over : Rows.moveMenRow.holds Try.pinned (OpenSpec.ofChange Rows.moveMenSpec) :=
  OpenClaim.holds_of_wide 3 Try.f3 rfl rfl rfl rfl rfl rfl rfl ⟨rfl, rfl, rfl, rfl, rfl⟩ rfl rfl rfl rfl rfl (by kernel_rfl) Try.func3 (by kernel_rfl)
    (of_decide_eq_true (by kernel_rfl)) (by unfold Func.isWrapper; first | (rw [if_pos (by decide +kernel)]; kernel_rfl) | (rw [if_neg (by decide +kernel)]; exact ⟨rfl, rfl⟩))
    (fun os started H enc _ => lifted os started H enc)

/-- The statement. -/
theorem proved : Rows.MoveMenSaid := over
#print axioms proved

end Go.Proofs.Ytidjjbhadehclaa.moveMen
