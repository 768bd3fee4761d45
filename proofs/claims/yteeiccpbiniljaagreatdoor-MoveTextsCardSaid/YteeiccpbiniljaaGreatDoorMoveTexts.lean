/- MoveTexts: any move has the text that the document says, it is read as the move, and any text is a move or none; for every move and every text. -/
import Derived.Test.YteeiccpbiniljaaGreatDoorT1
import Derived.Test.YteeiccpbiniljaaGreatDoorX5
import Derived.Test.YteeiccpbiniljaaGreatDoorAm5
import Derived.Test.YteeiccpbiniljaaGreatDoorCards
import Derived.Test.YteeiccpbiniljaaGreatDoorTie
import Derived.ProofKit
import Derived.LaidMore
import Derived.OpenShut
import Derived.Lay
import Derived.SevenTiedAt
import Derived.Stop.Joined
set_option linter.all false
set_option maxRecDepth 100000
namespace Go.Proofs.YteeiccpbiniljaaGreatDoor.moveTexts
open Go Am Go.ChangeShapes Go.WideShapes Go.ChangeAt Go.RowKit

theorem own : ownKnob Tryz.prog.godebug = none := by kernel_rfl

abbrev moveT : Ty := .pair (.int .i64) (.pair (.int .i64) (.pair (.int .i64) .unit))
abbrev intT : Ty := .int .i64
abbrev strT : Ty := .str
abbrev posT : Ty := .pair (.arr 64 (.int .i8)) (.pair (.int .i64) (.pair (.int .i64) (.pair (.int .i64) .unit)))

theorem move_ok : EqOk Tryz.prog 23 moveT ∧ Tryz.prog.cellsOf 23 = moveT.size := eqOk_of tbl_ok (t := 23) (by kernel_rfl) (by kernel_rfl) (by kernel_rfl)
theorem str_ok : Tryz.prog.underlying 9 = some .string ∧ Tryz.prog.cellsOf 9 = Ty.str.size := ⟨by kernel_rfl, by kernel_rfl⟩

theorem bd_of {p : PosD} (h : posT.wf p) : Bd p.1 := by
  refine ⟨h.1.1, fun x hx => ?_⟩
  have := h.1.2 x hx
  simpa [Ty.wf, Lit.wf, IntKind.min, IntKind.max, IntKind.signed, IntKind.bits] using this

theorem run_eq (F : MoveD → ByteArray → {S : Type} → (Bool → Option S) → Option S) (x0 : MoveD) (x1 : ByteArray) : (W_law09_MoveTexts F).run (R := AV) [.val moveT x0, .val strT x1] [] (fun v _ => some v) = F x0 x1 (fun z => some (.val .bool z)) := by kernel_rfl

theorem run_true (x0 : MoveD) (hx0 : moveT.wf x0) (x1 : ByteArray) (hx1 : strT.wf x1) : (W_law09_MoveTexts (@F_law09_MoveTexts)).run (R := AV) [.val moveT x0, .val strT x1] [] (fun v _ => some v) = some (.val .bool true) := by
  rw [run_eq (@F_law09_MoveTexts) x0 x1, moveTexts_eq]

theorem contract (H : Type) (enc : TypeId × Value → H) (W : World) (base : Nat) (args : Array Value) (ds gs : List (DataW H)) (before : List MemPlace)
    (hval : ∀ (j : Nat) t v, Tryz.f3.params[j]? = some t → args[j]? = some v → Value.okWide Tryz.prog W .any base t v)
    (hW : DataW.Whole enc Tryz.prog Tryz.f3.params.toList Rows.moveTextsSpec.vars false W args.toList ds gs before) :
    Calls Tryz.prog 3 args W fun e W' => ∃ v, e = .returned v ∧ Rows.moveTextsSpec.post enc Tryz.prog Tryz.f3 false true false false W args v W' := by
  have hW' := hW
  obtain ⟨p, q, hA0, hV, rfl, hfz, hnd⟩ := hW
  have hA : DataW.TrodAll enc Tryz.prog W 0 (fun _ => true) true [23, 9] args.toList ds p := hA0
  obtain ⟨rfl, rfl⟩ := trodVars_none hV
  obtain ⟨v0, vs0, d0, ds0, p0, q0, hargs, rfl, rfl, h0, r0⟩ := trodAll_cons hA
  obtain ⟨v1, vs1, d1, ds1, p1, q1, rfl, rfl, rfl, h1, r1⟩ := trodAll_cons r0
  obtain ⟨rfl, rfl, rfl⟩ := trodAll_nil r1
  obtain rfl : args = #[v0, v1] := by cases args; simp_all
  obtain ⟨rfl, ⟨x0, hx0, ra0⟩, k0⟩ := arg_open move_ok.1 move_ok.2 rfl (hval 0 23 v0 rfl rfl) h0
  obtain ⟨rfl, ⟨x1, hx1, ra1⟩, k1⟩ := arg_str str_ok.1 str_ok.2 (hval 1 9 v1 rfl rfl) h1
  have hcall := call_true good_law09_MoveTexts (args := [.val moveT x0, .val strT x1]) (run_true x0 hx0 x1 hx1) W (vs := [v0, v1]) (RVs_cons (ra0 ..) (RVs_cons (ra1 ..) rfl))
  refine hcall.mono ?_
  rintro e W' ⟨rfl, hk⟩
  refine ⟨_, rfl, post_true (ds := [d0, d1]) rfl hW' (trodAll_cons_mk (shut_bool Tryz.underlying4 _) trodAll_mk0) ?_ hk rfl⟩
  exact (trodAll_cons_mk (k0 ..) (trodAll_cons_mk (k1 ..) trodAll_mk0))

theorem lifted (os : Os) (started : os.Started) (H : Type) (enc : TypeId × Value → H) :
    ReturnsInHanded {} Tryz.checked os 3 .any (fun w args => (Rows.moveTextsSpec.pre enc Tryz.prog Tryz.f3 Rows.moveTextsRow.domain false w args ∧ laidMetH Tryz.prog Rows.moveTextsRow.laid w) ∧ sizedMet enc Tryz.prog Tryz.f3 (OpenSpec.ofChange Rows.moveTextsSpec) false w args)
      (Rows.moveTextsSpec.post enc Tryz.prog Tryz.f3 false true false false) := by
  refine returnsInHanded_of_change_and (C := Tryz.checked) (X := fun w _ => laidMetH Tryz.prog Rows.moveTextsRow.laid w) (fun _ _ _ hh h => h.of_heap hh) own started (by kernel_rfl) Tryz.func3
    (ChangeSpec.witness_shaped (enc := enc) (C := Tryz.checked) (os := os) (X := fun w _ => laidMetH Tryz.prog Rows.moveTextsRow.laid w) false (World.laidAll Tryz.prog os Rows.moveTextsRow.laid) #[.agg #[.int .i64 0, .int .i64 0, .int .i64 0], .string ⟨#[]⟩] 8 (World.laidAll_os _ _ _)
      (World.shaped_of_ZipB (by kernel_rfl) (by kernel_rfl)) (by kernel_rfl) (by kernel_rfl) (by kernel_rfl)
      (by rw [MakeChecks.laidMetH_plain _ _ _ (by kernel_rfl)]; exact laidMet_laidAll _ (by kernel_rfl) (by kernel_rfl))) ?_
  intro W base args ds gs before hval hW hc _ hL _
  exact contract H enc W base args ds gs before hval hW

theorem over : Rows.MoveTextsSaid :=
  OpenClaim.holds_of_wide 3 Tryz.f3 rfl rfl rfl rfl rfl rfl rfl ⟨rfl, rfl, rfl, rfl, rfl⟩ rfl rfl rfl rfl rfl (by kernel_rfl) Tryz.func3 (by kernel_rfl)
    (of_decide_eq_true (by kernel_rfl)) (by unfold Func.isWrapper; first | (rw [if_pos (by decide +kernel)]; kernel_rfl) | (rw [if_neg (by decide +kernel)]; exact ⟨rfl, rfl⟩))
    (fun os started H enc _ => lifted os started H enc)

/-- The statement. -/
theorem proved : Rows.MoveTextsCardSaid :=
  Claim7.holds_tied_plain_at .later [] [.data, .pinned, .pinned] true (true, "1d3cc6d876fe25118779041e5aa24516a9f7079c8302026f6d66c395a2683d61") false over (fun _ h => by cases h) (by kernel_rfl) (fun _ h => by cases h) moveTexts_row_tie rfl ⟨rfl, rfl⟩ (by kernel_rfl) rfl
    (fun f fn hf hfn => by
      obtain rfl : f = 3 := Option.some.inj ((show Tryz.prog.funcNamed "alfil/alfillaw09.MoveTexts" = some 3 by kernel_rfl).symm.trans hf) |>.symm
      obtain rfl : fn = Tryz.f3 := (Option.some.inj (Tryz.func3.symm.trans hfn)).symm
      exact ⟨by kernel_rfl, fun j t ht => by
        have hm : t ∈ [23, 9] := by
          have := Array.mem_of_getElem? ht
          rw [show Tryz.f3.params = #[23, 9] by kernel_rfl] at this
          simpa using this
        have hall : ([23, 9].all fun u => !Tryz.prog.wantsStandIn u) = true := by kernel_rfl
        exact (show Tryz.prog.wantsStandIn t = false by simpa using List.all_eq_true.1 hall t hm)⟩)
    (by kernel_rfl)
#print axioms proved

end Go.Proofs.YteeiccpbiniljaaGreatDoor.moveTexts

