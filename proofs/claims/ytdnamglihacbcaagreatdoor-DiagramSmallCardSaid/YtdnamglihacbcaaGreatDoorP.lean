/- DiagramSmall returns true, whatever memory it is called in; the two package variables that it reads hold what the program's text lays. -/
import Derived.Test.YtdnamglihacbcaaGreatDoorK1
import Derived.Test.YtdnamglihacbcaaGreatDoorK2
import Derived.Test.YtdnamglihacbcaaGreatDoorME
import Derived.Test.YtdnamglihacbcaaGreatDoorS2
import Derived.Test.YtdnamglihacbcaaGreatDoorCards
import Derived.Test.YtdnamglihacbcaaGreatDoorTie
import Derived.ChangeSame
import Derived.ChangeVars
import Derived.JoinedOf
import Derived.RowKit
import Derived.RowKitTokens
import Derived.LaidLaws
import Derived.LaidHandle
import Derived.Stop.Joined
import Derived.SevenTiedAt
import Derived.MakeChecks
namespace Go.Proofs.YtdnamglihacbcaaGreatDoor
open Go Go.Sp Go.ChangeShapes Go.WideShapes Go.RowKit

theorem Tv.ok : VOk Tryz.prog Tv.view 2 (PlOf Tv.view) := viewOk Tv.h1 Tv.h2 Tv.h3 Tv.h4 Tv.h5 (fun _ => rfl)
theorem Tv.ext_ok : ∀ f g, Tv.ext f = some g → FnRuns Tryz.prog f ∧ ∀ args H v H', g args H = some (v, H') → ∀ β w base args', HRel (okC Tryz.prog 2 (PlOf Tv.view)) β H w base → GRel 2 β → LRel β args args'.toList → CallGives Tryz.prog 2 (PlOf Tv.view) β H w base f args' v H' := by
  intro f g h
  unfold Tv.ext at h
  split at h
  · rename_i hf
    cases h
    obtain rfl := Nat.eq_of_beq_eq_true hf
    exact ⟨runs_of (by kernel_rfl), fixedCall_ok Tv.ok (by kernel_rfl) Ta.end0 (by kernel_rfl) (Nat.le_of_ble_eq_true (by kernel_rfl)) (by kernel_rfl)⟩
  · cases h
theorem Tv.ok2 : VOk Tryz.prog Tv.view2 2 (PlOf Tv.view2) := Tv.ok.withExt Tv.ext Tv.ext_ok

noncomputable def Tv.cells : List (Nat × List Value) := [(0, [.int .i64 0, .int .i64 0, .int .i64 0, .int .i64 0, .int .i64 0]), (1, [.int .i64 1, .int .i64 0, .int .i64 0, .int .i64 0, .int .i64 0])]
theorem law_calls (W : World) (hL : laidMetH Tryz.prog Rows.diagramSmallRow.laid W) : Calls Tryz.prog 3 #[] W fun e w' => e = .returned (.bool true) ∧ Below W.heap.size W w' :=
  closed_calls (H0 := Ts.h0) (v := .bool true) Tv.ok2 (by kernel_rfl) Ts.end0 rfl (laid_cells (k := 20) (m := Tv.cells) hL (by kernel_rfl) (by kernel_rfl)) (by kernel_rfl)

theorem Tryz.own : ownKnob Tryz.prog.godebug = none := by kernel_rfl
set_option maxRecDepth 100000 in
theorem law_lifted (os : Os) (started : os.Started) (H : Type) (enc : TypeId × Value → H) :
    ReturnsInHanded {} Tryz.checked os 3 .any (fun w args => (Rows.diagramSmallSpec.pre enc Tryz.prog Tryz.f3 [] false w args ∧ laidMetH Tryz.prog Rows.diagramSmallRow.laid w) ∧ sizedMet enc Tryz.prog Tryz.f3 (OpenSpec.ofChange Rows.diagramSmallSpec) false w args)
      (Rows.diagramSmallSpec.post enc Tryz.prog Tryz.f3 false true false false) := by
  refine returnsInHanded_of_change_and (C := Tryz.checked) (X := fun w _ => laidMetH Tryz.prog Rows.diagramSmallRow.laid w) (fun _ _ _ hh h => h.of_heap hh) Tryz.own started (by kernel_rfl) Tryz.func3
    (ChangeSpec.witness_at (enc := enc) (C := Tryz.checked) (os := os) (X := fun w _ => laidMetH Tryz.prog Rows.diagramSmallRow.laid w) false (World.laidAll Tryz.prog os Rows.diagramSmallRow.laid) #[] 8 (World.laidAll_os _ _ _) (by kernel_rfl) (by kernel_rfl) (by kernel_rfl) (by kernel_rfl) (by kernel_rfl) ?_) ?_
  · rw [Go.MakeChecks.laidMetH_plain _ _ _ (by kernel_rfl)]
    exact laidMet_laidAll _ (by kernel_rfl) (by kernel_rfl)
  intro W base args ds gs before hval0 hW _ _ hL _
  have hW' := hW
  obtain ⟨p, q, hA0, hV0, rfl, hfz, hnd⟩ := hW
  have hA : DataW.TrodAll enc Tryz.prog W 0 (fun _ => true) true Tryz.f3.params.toList args.toList ds p := hA0
  have hV : DataW.TrodVars enc Tryz.prog W (fun _ => true) [] gs q := hV0
  rw [Tryz.params3] at hA
  obtain ⟨rfl, rfl, rfl⟩ := trodAll_none hA
  obtain ⟨rfl, rfl⟩ := trodVars_none hV
  refine (law_calls W hL).mono fun e W' ⟨he, hw⟩ => ?_
  subst he
  exact ⟨_, rfl, [], [], _, [], [], [], hW', trodAll_mk1 (shut_bool Tryz.underlying4 true), rfl, rfl, hw.frame _, fun h => by cases h⟩

theorem row_holds : Rows.DiagramSmallSaid :=
  OpenClaim.holds_of_wide 3 Tryz.f3 rfl rfl rfl rfl rfl rfl rfl ⟨rfl, rfl, rfl, rfl, rfl⟩ rfl rfl rfl rfl rfl (by kernel_rfl) Tryz.func3 (by kernel_rfl)
    (of_decide_eq_true (by kernel_rfl)) (by unfold Func.isWrapper; rw [if_neg (of_decide_eq_false (by kernel_rfl))]; exact ⟨rfl, rfl⟩)
    (fun os started H enc _ => law_lifted os started H enc)

theorem card_holds : Rows.DiagramSmallCardSaid :=
  Claim7.holds_tied_plain_at .later [] [.data, .data] true (true, "8d918aa30460196d3f15cc47a05394b8c6e6b5add53bc2d9aa1c9fe25d6e4d48") false
    row_holds (fun _ h => by cases h) (by kernel_rfl) (fun _ h => by cases h) diagramSmall_row_tie rfl ⟨rfl, rfl⟩ (by kernel_rfl) rfl
    (fun f fn hf hfn => by
      obtain rfl : f = 3 := Option.some.inj ((show Tryz.prog.funcNamed "spoondrift/spoondriftlaw15.DiagramSmall" = some 3 by kernel_rfl).symm.trans hf) |>.symm
      obtain rfl : fn = Tryz.f3 := (Option.some.inj (Tryz.func3.symm.trans hfn)).symm
      exact ⟨by kernel_rfl, fun j t ht => by
        rw [Tryz.params3] at ht
        simp at ht⟩)
    (by kernel_rfl)
#print axioms card_holds
end Go.Proofs.YtdnamglihacbcaaGreatDoor
