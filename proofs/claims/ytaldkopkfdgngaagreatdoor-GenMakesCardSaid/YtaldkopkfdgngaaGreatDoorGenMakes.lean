/- GenMakes: each move by which a man goes makes a position whose board may be one, with one king of who moved and no pawn on the rim; for every position. -/
import Derived.Test.YtaldkopkfdgngaaGreatDoorT2
import Derived.Test.YtaldkopkfdgngaaGreatDoorL31
import Derived.Test.YtaldkopkfdgngaaGreatDoorAm5
import Derived.Test.YtaldkopkfdgngaaGreatDoorCards
import Derived.Test.YtaldkopkfdgngaaGreatDoorTie
import Derived.ProofKit
import Derived.LaidMore
import Derived.OpenShut
import Derived.Lay
import Derived.SevenTiedAt
import Derived.Stop.Joined
set_option linter.all false
set_option maxRecDepth 100000
namespace Go.Proofs.YtaldkopkfdgngaaGreatDoor.genMakes
open Go Am Go.ChangeShapes Go.WideShapes Go.ChangeAt Go.RowKit

theorem own : ownKnob Tryz.prog.godebug = none := by kernel_rfl

abbrev moveT : Ty := .pair (.int .i64) (.pair (.int .i64) (.pair (.int .i64) .unit))
abbrev intT : Ty := .int .i64
abbrev posT : Ty := .pair (.arr 64 (.int .i8)) (.pair (.int .i64) (.pair (.int .i64) (.pair (.int .i64) .unit)))

theorem pos_ok : EqOk Tryz.prog 26 posT ∧ Tryz.prog.cellsOf 26 = posT.size := eqOk_of tbl_ok (t := 26) (by kernel_rfl) (by kernel_rfl) (by kernel_rfl)

theorem bd_of {p : PosD} (h : posT.wf p) : Bd p.1 := by
  refine ⟨h.1.1, fun x hx => ?_⟩
  have := h.1.2 x hx
  simpa [Ty.wf, Lit.wf, IntKind.min, IntKind.max, IntKind.signed, IntKind.bits] using this

theorem run_eq (F : PosD → {S : Type} → (Bool → Option S) → Option S) (x0 : PosD) : (W_law10_GenMakes F).run (R := AV) [.val posT x0] [] (fun v _ => some v) = F x0 (fun z => some (.val .bool z)) := by kernel_rfl

theorem run_true (x0 : PosD) (hx0 : posT.wf x0) : (W_law10_GenMakes (@F_law10_GenMakes)).run (R := AV) [.val posT x0] [] (fun v _ => some v) = some (.val .bool true) := by
  rw [run_eq (@F_law10_GenMakes) x0, genMakes_eq (bd_of hx0)]

theorem contract (H : Type) (enc : TypeId × Value → H) (W : World) (base : Nat) (args : Array Value) (ds gs : List (DataW H)) (before : List MemPlace)
    (hval : ∀ (j : Nat) t v, Tryz.f7.params[j]? = some t → args[j]? = some v → Value.okWide Tryz.prog W .any base t v)
    (hW : DataW.Whole enc Tryz.prog Tryz.f7.params.toList Rows.genMakesSpec.vars false W args.toList ds gs before) :
    Calls Tryz.prog 7 args W fun e W' => ∃ v, e = .returned v ∧ Rows.genMakesSpec.post enc Tryz.prog Tryz.f7 false true false false W args v W' := by
  have hW' := hW
  obtain ⟨p, q, hA0, hV, rfl, hfz, hnd⟩ := hW
  have hA : DataW.TrodAll enc Tryz.prog W 0 (fun _ => true) true [26] args.toList ds p := hA0
  obtain ⟨rfl, rfl⟩ := trodVars_none hV
  obtain ⟨v0, vs0, d0, ds0, p0, q0, hargs, rfl, rfl, h0, r0⟩ := trodAll_cons hA
  obtain ⟨rfl, rfl, rfl⟩ := trodAll_nil r0
  obtain rfl : args = #[v0] := by cases args; simp_all
  obtain ⟨rfl, ⟨x0, hx0, ra0⟩, k0⟩ := arg_open pos_ok.1 pos_ok.2 rfl (hval 0 26 v0 rfl rfl) h0
  have hcall := call_true good_law10_GenMakes (args := [.val posT x0]) (run_true x0 hx0) W (vs := [v0]) (RVs_cons (ra0 ..) rfl)
  refine hcall.mono ?_
  rintro e W' ⟨rfl, hk⟩
  refine ⟨_, rfl, post_true (ds := [d0]) rfl hW' (trodAll_cons_mk (shut_bool Tryz.underlying4 _) trodAll_mk0) ?_ hk rfl⟩
  exact (trodAll_cons_mk (k0 ..) trodAll_mk0)

theorem lifted (os : Os) (started : os.Started) (H : Type) (enc : TypeId × Value → H) :
    ReturnsInHanded {} Tryz.checked os 7 .any (fun w args => (Rows.genMakesSpec.pre enc Tryz.prog Tryz.f7 Rows.genMakesRow.domain false w args ∧ laidMetH Tryz.prog Rows.genMakesRow.laid w) ∧ sizedMet enc Tryz.prog Tryz.f7 (OpenSpec.ofChange Rows.genMakesSpec) false w args)
      (Rows.genMakesSpec.post enc Tryz.prog Tryz.f7 false true false false) := by
  refine returnsInHanded_of_change_and (C := Tryz.checked) (X := fun w _ => laidMetH Tryz.prog Rows.genMakesRow.laid w) (fun _ _ _ hh h => h.of_heap hh) own started (by kernel_rfl) Tryz.func7
    (ChangeSpec.witness_shaped (enc := enc) (C := Tryz.checked) (os := os) (X := fun w _ => laidMetH Tryz.prog Rows.genMakesRow.laid w) false (World.laidAll Tryz.prog os Rows.genMakesRow.laid) #[.agg (Array.replicate 64 (.int .i8 0) ++ #[.int .i64 0, .int .i64 0, .int .i64 0])] 8 (World.laidAll_os _ _ _)
      (World.shaped_of_ZipB (by kernel_rfl) (by kernel_rfl)) (by kernel_rfl) (by kernel_rfl) (by kernel_rfl)
      (by rw [MakeChecks.laidMetH_plain _ _ _ (by kernel_rfl)]; exact laidMet_laidAll _ (by kernel_rfl) (by kernel_rfl))) ?_
  intro W base args ds gs before hval hW hc _ hL _
  exact contract H enc W base args ds gs before hval hW

theorem over : Rows.GenMakesSaid :=
  OpenClaim.holds_of_wide 7 Tryz.f7 rfl rfl rfl rfl rfl rfl rfl ⟨rfl, rfl, rfl, rfl, rfl⟩ rfl rfl rfl rfl rfl (by kernel_rfl) Tryz.func7 (by kernel_rfl)
    (of_decide_eq_true (by kernel_rfl)) (by unfold Func.isWrapper; first | (rw [if_pos (by decide +kernel)]; kernel_rfl) | (rw [if_neg (by decide +kernel)]; exact ⟨rfl, rfl⟩))
    (fun os started H enc _ => lifted os started H enc)

/-- The statement. -/
theorem proved : Rows.GenMakesCardSaid :=
  Claim7.holds_tied_plain_at .later [] [.data, .pinned, .pinned] true (true, "e34fddeac766f410e4ce3e28218500a39e1a4a4ea9f13688301cd5a4ed19283d") false over (fun _ h => by cases h) (by kernel_rfl) (fun _ h => by cases h) genMakes_row_tie rfl ⟨rfl, rfl⟩ (by kernel_rfl) rfl
    (fun f fn hf hfn => by
      obtain rfl : f = 7 := Option.some.inj ((show Tryz.prog.funcNamed "alfil/alfillaw10.GenMakes" = some 7 by kernel_rfl).symm.trans hf) |>.symm
      obtain rfl : fn = Tryz.f7 := (Option.some.inj (Tryz.func7.symm.trans hfn)).symm
      exact ⟨by kernel_rfl, fun j t ht => by
        have hm : t ∈ [26] := by
          have := Array.mem_of_getElem? ht
          rw [show Tryz.f7.params = #[26] by kernel_rfl] at this
          simpa using this
        have hall : ([26].all fun u => !Tryz.prog.wantsStandIn u) = true := by kernel_rfl
        exact (show Tryz.prog.wantsStandIn t = false by simpa using List.all_eq_true.1 hall t hm)⟩)
    (by kernel_rfl)
#print axioms proved

end Go.Proofs.YtaldkopkfdgngaaGreatDoor.genMakes


