/- GenFrom: of any position the moves from a square are those of all that begin there, and a move goes just if it is one of them; for every position, square and move. -/
import Derived.Test.YtaldkopkfdgngaaGreatDoorT2
import Derived.Test.YtaldkopkfdgngaaGreatDoorL37
import Derived.Test.YtaldkopkfdgngaaGreatDoorAm5
import Derived.Test.YtaldkopkfdgngaaGreatDoorCards
import Derived.Test.YtaldkopkfdgngaaGreatDoorTie
import Derived.ProofKit
import Derived.LaidMore
import Derived.OpenShut
import Derived.Lay
import Derived.SevenTiedAt
import Derived.Stop.Joined
set_option linter.all false
set_option maxRecDepth 100000
namespace Go.Proofs.YtaldkopkfdgngaaGreatDoor.genFrom
open Go Am Go.ChangeShapes Go.WideShapes Go.ChangeAt Go.RowKit

theorem own : ownKnob Tryz.prog.godebug = none := by kernel_rfl

abbrev moveT : Ty := .pair (.int .i64) (.pair (.int .i64) (.pair (.int .i64) .unit))
abbrev intT : Ty := .int .i64
abbrev posT : Ty := .pair (.arr 64 (.int .i8)) (.pair (.int .i64) (.pair (.int .i64) (.pair (.int .i64) .unit)))

theorem pos_ok : EqOk Tryz.prog 26 posT ∧ Tryz.prog.cellsOf 26 = posT.size := eqOk_of tbl_ok (t := 26) (by kernel_rfl) (by kernel_rfl) (by kernel_rfl)
theorem int_ok : Tryz.prog.underlying 3 = some (.int .i64) ∧ Tryz.prog.cellsOf 3 = (Ty.int .i64).size := ⟨by kernel_rfl, by kernel_rfl⟩
theorem move_ok : EqOk Tryz.prog 36 moveT ∧ Tryz.prog.cellsOf 36 = moveT.size := eqOk_of tbl_ok (t := 36) (by kernel_rfl) (by kernel_rfl) (by kernel_rfl)

theorem bd_of {p : PosD} (h : posT.wf p) : Bd p.1 := by
  refine ⟨h.1.1, fun x hx => ?_⟩
  have := h.1.2 x hx
  simpa [Ty.wf, Lit.wf, IntKind.min, IntKind.max, IntKind.signed, IntKind.bits] using this

theorem run_eq (F : PosD → Int → MoveD → {S : Type} → (Bool → Option S) → Option S) (x0 : PosD) (x1 : Int) (x2 : MoveD) : (W_law10_GenFrom F).run (R := AV) [.val posT x0, .val intT x1, .val moveT x2] [] (fun v _ => some v) = F x0 x1 x2 (fun z => some (.val .bool z)) := by kernel_rfl

theorem run_true (x0 : PosD) (hx0 : posT.wf x0) (x1 : Int) (hx1 : intT.wf x1) (x2 : MoveD) (hx2 : moveT.wf x2) : (W_law10_GenFrom (@F_law10_GenFrom)).run (R := AV) [.val posT x0, .val intT x1, .val moveT x2] [] (fun v _ => some v) = some (.val .bool true) := by
  rw [run_eq (@F_law10_GenFrom) x0 x1 x2, genFrom_eq (bd_of hx0)]

theorem contract (H : Type) (enc : TypeId × Value → H) (W : World) (base : Nat) (args : Array Value) (ds gs : List (DataW H)) (before : List MemPlace)
    (hval : ∀ (j : Nat) t v, Tryz.f5.params[j]? = some t → args[j]? = some v → Value.okWide Tryz.prog W .any base t v)
    (hW : DataW.Whole enc Tryz.prog Tryz.f5.params.toList Rows.genFromSpec.vars false W args.toList ds gs before) :
    Calls Tryz.prog 5 args W fun e W' => ∃ v, e = .returned v ∧ Rows.genFromSpec.post enc Tryz.prog Tryz.f5 false true false false W args v W' := by
  have hW' := hW
  obtain ⟨p, q, hA0, hV, rfl, hfz, hnd⟩ := hW
  have hA : DataW.TrodAll enc Tryz.prog W 0 (fun _ => true) true [26, 3, 36] args.toList ds p := hA0
  obtain ⟨rfl, rfl⟩ := trodVars_none hV
  obtain ⟨v0, vs0, d0, ds0, p0, q0, hargs, rfl, rfl, h0, r0⟩ := trodAll_cons hA
  obtain ⟨v1, vs1, d1, ds1, p1, q1, rfl, rfl, rfl, h1, r1⟩ := trodAll_cons r0
  obtain ⟨v2, vs2, d2, ds2, p2, q2, rfl, rfl, rfl, h2, r2⟩ := trodAll_cons r1
  obtain ⟨rfl, rfl, rfl⟩ := trodAll_nil r2
  obtain rfl : args = #[v0, v1, v2] := by cases args; simp_all
  obtain ⟨rfl, ⟨x0, hx0, ra0⟩, k0⟩ := arg_open pos_ok.1 pos_ok.2 rfl (hval 0 26 v0 rfl rfl) h0
  obtain ⟨rfl, ⟨x1, hx1, ra1⟩, k1⟩ := arg_int int_ok.1 int_ok.2 (hval 1 3 v1 rfl rfl) h1
  obtain ⟨rfl, ⟨x2, hx2, ra2⟩, k2⟩ := arg_open move_ok.1 move_ok.2 rfl (hval 2 36 v2 rfl rfl) h2
  have hcall := call_true good_law10_GenFrom (args := [.val posT x0, .val intT x1, .val moveT x2]) (run_true x0 hx0 x1 hx1 x2 hx2) W (vs := [v0, v1, v2]) (RVs_cons (ra0 ..) (RVs_cons (ra1 ..) (RVs_cons (ra2 ..) rfl)))
  refine hcall.mono ?_
  rintro e W' ⟨rfl, hk⟩
  refine ⟨_, rfl, post_true (ds := [d0, d1, d2]) rfl hW' (trodAll_cons_mk (shut_bool Tryz.underlying4 _) trodAll_mk0) ?_ hk rfl⟩
  exact (trodAll_cons_mk (k0 ..) (trodAll_cons_mk (k1 ..) (trodAll_cons_mk (k2 ..) trodAll_mk0)))

theorem lifted (os : Os) (started : os.Started) (H : Type) (enc : TypeId × Value → H) :
    ReturnsInHanded {} Tryz.checked os 5 .any (fun w args => (Rows.genFromSpec.pre enc Tryz.prog Tryz.f5 Rows.genFromRow.domain false w args ∧ laidMetH Tryz.prog Rows.genFromRow.laid w) ∧ sizedMet enc Tryz.prog Tryz.f5 (OpenSpec.ofChange Rows.genFromSpec) false w args)
      (Rows.genFromSpec.post enc Tryz.prog Tryz.f5 false true false false) := by
  refine returnsInHanded_of_change_and (C := Tryz.checked) (X := fun w _ => laidMetH Tryz.prog Rows.genFromRow.laid w) (fun _ _ _ hh h => h.of_heap hh) own started (by kernel_rfl) Tryz.func5
    (ChangeSpec.witness_shaped (enc := enc) (C := Tryz.checked) (os := os) (X := fun w _ => laidMetH Tryz.prog Rows.genFromRow.laid w) false (World.laidAll Tryz.prog os Rows.genFromRow.laid) #[.agg (Array.replicate 64 (.int .i8 0) ++ #[.int .i64 0, .int .i64 0, .int .i64 0]), .int .i64 0, .agg #[.int .i64 0, .int .i64 0, .int .i64 0]] 8 (World.laidAll_os _ _ _)
      (World.shaped_of_ZipB (by kernel_rfl) (by kernel_rfl)) (by kernel_rfl) (by kernel_rfl) (by kernel_rfl)
      (by rw [MakeChecks.laidMetH_plain _ _ _ (by kernel_rfl)]; exact laidMet_laidAll _ (by kernel_rfl) (by kernel_rfl))) ?_
  intro W base args ds gs before hval hW hc _ hL _
  exact contract H enc W base args ds gs before hval hW

theorem over : Rows.GenFromSaid :=
  OpenClaim.holds_of_wide 5 Tryz.f5 rfl rfl rfl rfl rfl rfl rfl ⟨rfl, rfl, rfl, rfl, rfl⟩ rfl rfl rfl rfl rfl (by kernel_rfl) Tryz.func5 (by kernel_rfl)
    (of_decide_eq_true (by kernel_rfl)) (by unfold Func.isWrapper; first | (rw [if_pos (by decide +kernel)]; kernel_rfl) | (rw [if_neg (by decide +kernel)]; exact ⟨rfl, rfl⟩))
    (fun os started H enc _ => lifted os started H enc)

/-- The statement. -/
theorem proved : Rows.GenFromCardSaid :=
  Claim7.holds_tied_plain_at .later [] [.data, .pinned, .pinned] true (true, "e34fddeac766f410e4ce3e28218500a39e1a4a4ea9f13688301cd5a4ed19283d") false over (fun _ h => by cases h) (by kernel_rfl) (fun _ h => by cases h) genFrom_row_tie rfl ⟨rfl, rfl⟩ (by kernel_rfl) rfl
    (fun f fn hf hfn => by
      obtain rfl : f = 5 := Option.some.inj ((show Tryz.prog.funcNamed "alfil/alfillaw10.GenFrom" = some 5 by kernel_rfl).symm.trans hf) |>.symm
      obtain rfl : fn = Tryz.f5 := (Option.some.inj (Tryz.func5.symm.trans hfn)).symm
      exact ⟨by kernel_rfl, fun j t ht => by
        have hm : t ∈ [26, 3, 36] := by
          have := Array.mem_of_getElem? ht
          rw [show Tryz.f5.params = #[26, 3, 36] by kernel_rfl] at this
          simpa using this
        have hall : ([26, 3, 36].all fun u => !Tryz.prog.wantsStandIn u) = true := by kernel_rfl
        exact (show Tryz.prog.wantsStandIn t = false by simpa using List.all_eq_true.1 hall t hm)⟩)
    (by kernel_rfl)
#print axioms proved

end Go.Proofs.YtaldkopkfdgngaaGreatDoor.genFrom


