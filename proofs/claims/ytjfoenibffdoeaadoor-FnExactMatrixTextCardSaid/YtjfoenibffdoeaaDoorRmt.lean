/- Proved: the law FnExactMatrixText returns true for every input and leaves its arguments as they were. Conditions: the listed package-level variables hold what the program's text lays (the card ties them). -/
import Derived.Test.YtjfoenibffdoeaaDoorRows
import Derived.Test.YtjfoenibffdoeaaDoorCards
import Derived.Test.YtjfoenibffdoeaaDoorTie
import Derived.ProofKit
import Derived.LaidMore
import Derived.LaidHandle
import Derived.SevenTiedAt
import Derived.Test.YtjfoenibffdoeaaDoorMmt3
namespace Go.Proofs.YtjfoenibffdoeaaDoor
open Go Go.ChangeShapes Go.WideShapes Go.ChangeAt Go.RowKit

theorem ownFnExactMatrixText : ownKnob Tryd.prog.godebug = none := by kernel_rfl
theorem laidOutFnExactMatrixText : laidOutB Tryd.prog = true := by kernel_rfl
theorem laidMetTailFnExactMatrixText {P : Program} {a : String × DataW Unit} {l : List (String × DataW Unit)} {w : World} (h : laidMet P (a :: l) w) : laidMet P l w := by
  obtain ⟨ps, ⟨g, t, cs, fuel, p, q, _, _, _, _, hr, rfl⟩, hn, hc⟩ := h
  exact ⟨q, hr, (List.nodup_append.1 hn).2.1, fun b off hm => hc b off (List.mem_append.2 (.inr hm))⟩
/-- The door's own heap meets the condition. -/
theorem doorMetFnExactMatrixText (os : Os) (args : Array Value) : laidMetH Tryd.prog Rows.fnExactMatrixTextRow.laid ((World.doorLaid Tryd.prog 400 os).forCall (fun _ _ => 0) ⟨#[], args, []⟩).memory :=
  laidMetH_of_parts3 (fuel := 8) (laidMet_of_run' 8 (by kernel_rfl) (by kernel_rfl)) (by kernel_rfl) (by kernel_rfl)
theorem powTabFnExactMatrixText : (Rows.laid_internal_strconv_uint64pow10 : DataW Unit) = Go.Lib.tabData .u64 Go.Lib.pow10Tab := by kernel_rfl
theorem goodFnExactMatrixText {W : World} (h : laidMetH Tryd.prog Rows.fnExactMatrixTextRow.laid W) : YtjfoenibffdoeaaDoorAi.GoodW Tryd.prog W := by
  intro _
  rw [MakeChecks.laidMetH_plain _ _ _ (by kernel_rfl)] at h
  have h1 := laidMetTailFnExactMatrixText (laidMetTailFnExactMatrixText (h))
  rw [powTabFnExactMatrixText] at h1
  exact Go.Lib.tabIs_of_head (g := 1) (t := 219) (e := 192) (n := 20) (by kernel_rfl) (by kernel_rfl) (by kernel_rfl) (by kernel_rfl) (by kernel_rfl) (by kernel_rfl) h1

set_option maxRecDepth 100000 in
theorem fnExactMatrixText_lifted (os : Os) (started : os.Started) (H : Type) (enc : TypeId × Value → H) :
    ReturnsInHanded {} Tryd.checked os 7 .any (fun w args => (Rows.fnExactMatrixTextSpec.pre enc Tryd.prog Tryd.f7 Rows.fnExactMatrixTextRow.domain false w args ∧ laidMetH Tryd.prog Rows.fnExactMatrixTextRow.laid w) ∧ sizedMet enc Tryd.prog Tryd.f7 (OpenSpec.ofChange Rows.fnExactMatrixTextSpec) false w args) (Rows.fnExactMatrixTextSpec.post enc Tryd.prog Tryd.f7 false true false false) := by
  refine returnsInHanded_of_change_and (C := Tryd.checked) (X := fun w _ => laidMetH Tryd.prog Rows.fnExactMatrixTextRow.laid w) (fun _ _ _ hh h => h.of_heap hh) ownFnExactMatrixText started (by kernel_rfl) Tryd.func7
    (ChangeSpec.witness_shaped (enc := enc) (C := Tryd.checked) (os := os) (X := fun w _ => laidMetH Tryd.prog Rows.fnExactMatrixTextRow.laid w) false (World.doorLaid Tryd.prog 400 os) #[.slice none 0 0] 8 rfl (World.shaped_of_RefB (by kernel_rfl) (by kernel_rfl)) (by kernel_rfl) (by kernel_rfl) (by kernel_rfl) (doorMetFnExactMatrixText os _)) ?_
  intro W base args ds gs before hval0 hW hcnd _ hL _
  have hds : ∃ d, ds = [d] := by
    obtain ⟨p, q, hA, _⟩ := hW
    have hA : DataW.TrodAll enc Tryd.prog W 0 (fun _ => true) true Tryd.f7.params.toList args.toList ds p := hA
    rw [Tryd.params7] at hA
    obtain ⟨v, d, _, h, _⟩ := trodAll_one hA
    exact ⟨d, h⟩
  obtain ⟨d, rfl⟩ := hds
  exact YtjfoenibffdoeaaDoorAi.law_post (m := 9) (tys := [YtjfoenibffdoeaaDoorAi.tyMat]) laidOutFnExactMatrixText rfl rfl (by kernel_rfl) (by kernel_rfl) (by decide) YtjfoenibffdoeaaDoorAi.law_matrixText ⟨rfl, rfl, rfl⟩ (goodFnExactMatrixText hL) hval0 hW

theorem fnExactMatrixText_row : Rows.FnExactMatrixTextSaid :=
  OpenClaim.holds_of_wide 7 Tryd.f7 rfl rfl rfl rfl rfl rfl rfl ⟨rfl, rfl, rfl, rfl, rfl⟩ rfl rfl rfl rfl rfl (by kernel_rfl) Tryd.func7 (by kernel_rfl)
    (of_decide_eq_true (by kernel_rfl)) (by unfold Func.isWrapper; first | (rw [if_pos (by decide +kernel)]; kernel_rfl) | (rw [if_neg (by decide +kernel)]; exact ⟨rfl, rfl⟩))
    (fun os started H enc _ => fnExactMatrixText_lifted os started H enc)

theorem fnExactMatrixText_holds : Rows.FnExactMatrixTextCardSaid :=
  Claim7.holds_tied_plain_at .later [] [.data, .data, .data] true Rows.fnExactMatrixTextCard.stood.harness true
    fnExactMatrixText_row (fun _ h => by cases h) (by kernel_rfl) (fun _ h => by cases h) fnExactMatrixText_row_tie rfl ⟨rfl, rfl⟩ (by kernel_rfl) rfl
    (fun f fn hf hfn => by
      obtain rfl : f = 7 := Option.some.inj (hf.symm.trans (show Tryd.prog.funcNamed Rows.fnExactMatrixTextRow.func = some 7 by kernel_rfl))
      obtain rfl : fn = Tryd.f7 := (Option.some.inj (Tryd.func7.symm.trans hfn)).symm
      exact ⟨by kernel_rfl, fun j t ht => by
        have hall : (Tryd.f7.params.toList.all fun u => !Tryd.prog.wantsStandIn u) = true := by kernel_rfl
        have hm : t ∈ Tryd.f7.params.toList := by simpa using Array.mem_of_getElem? ht
        exact (show Tryd.prog.wantsStandIn t = false by simpa using List.all_eq_true.1 hall t hm)⟩)
    (by kernel_rfl)

end Go.Proofs.YtjfoenibffdoeaaDoor
