/- Proved: the law FnExactCertificateText returns true for every input and leaves its arguments as they were. Conditions: the listed package-level variables hold what the program's text lays (the card ties them). -/
import Derived.Test.YtlglgcmpeabdnaaGreatDoorRows
import Derived.Test.YtlglgcmpeabdnaaGreatDoorCards
import Derived.Test.YtlglgcmpeabdnaaGreatDoorTie
import Derived.ProofKit
import Derived.LaidMore
import Derived.LaidHandle
import Derived.SevenTiedAt
import Derived.Lay
import Derived.Stop.LaidErr
import Derived.Shelf.Vars
import Derived.Test.YtlglgcmpeabdnaaGreatDoorMct3
namespace Go.Proofs.YtlglgcmpeabdnaaGreatDoor
open Go Go.ChangeShapes Go.WideShapes Go.ChangeAt Go.RowKit

theorem ownFnExactCertificateText : ownKnob Tryz.prog.godebug = none := by kernel_rfl
theorem laidOutFnExactCertificateText : laidOutB Tryz.prog = true := by kernel_rfl
theorem laidMetTailFnExactCertificateText {P : Program} {a : String × DataW Unit} {l : List (String × DataW Unit)} {w : World} (h : laidMet P (a :: l) w) : laidMet P l w := by
  obtain ⟨ps, ⟨g, t, cs, fuel, p, q, _, _, _, _, hr, rfl⟩, hn, hc⟩ := h
  exact ⟨q, hr, (List.nodup_append.1 hn).2.1, fun b off hm => hc b off (List.mem_append.2 (.inr hm))⟩
/-- The door's own heap meets the condition. -/
theorem allMetFnExactCertificateText (os : Os) (args : Array Value) : laidMetH Tryz.prog Rows.fnExactCertificateTextRow.laid ((World.doorLaid Tryz.prog 400 os).forCall (fun _ _ => 0) ⟨#[], args, []⟩).memory :=
  laidMetH_of_parts3 (fuel := 8) (laidMet_of_run' 8 (by kernel_rfl) (by kernel_rfl)) (by kernel_rfl) (by kernel_rfl)
theorem powTabFnExactCertificateText : (Rows.laid_internal_strconv_uint64pow10 : DataW Unit) = Go.Lib.tabData .u64 Go.Lib.pow10Tab := by kernel_rfl
theorem goodFnExactCertificateText {W : World} (h : laidMetH Tryz.prog Rows.fnExactCertificateTextRow.laid W) (hs : W.ShapedOpen Tryz.prog) : YtlglgcmpeabdnaaGreatDoorAi.GoodW Tryz.prog W := by
  rw [MakeChecks.laidMetH_plain _ _ _ (by kernel_rfl)] at h
  refine ⟨fun _ => ?_, fun hgE _ => ?_, fun hgE _ => ?_, fun hgM => ?_⟩
  · have h1 := laidMetTailFnExactCertificateText (laidMetTailFnExactCertificateText (h))
    rw [powTabFnExactCertificateText] at h1
    exact Go.Lib.tabIs_of_head (g := 3) (t := 224) (e := 186) (n := 20) (by kernel_rfl) (by kernel_rfl) (by kernel_rfl) (by kernel_rfl) (by kernel_rfl) (by kernel_rfl) h1
  · exact absurd hgE (by decide)
  · exact absurd hgE (by decide)
  · have hg : 0 < Tryz.prog.globals.size := of_decide_eq_true (by kernel_rfl)
    have h0 : ((begin Tryz.prog (fun _ _ => 0) default).world.heap[0]?).bind Obj.row? = some (#[.int .i64 0], 3) := by kernel_rfl
    obtain ⟨cs, hh, hz, _⟩ := hs.1 0 #[.int .i64 0] 3 hg h0
    obtain ⟨m, hm⟩ := cell_of_shapedOpen_int (P := Tryz.prog) (g := 0) (t := 3) (zero := #[.int .i64 0]) (k := .i64) hs hg h0 rfl (by kernel_rfl) (by kernel_rfl) (by kernel_rfl)
    refine ⟨m, ?_⟩
    have hn : Tryz.prog.globalNamed "internal/bytealg.MaxLen" = some 0 := by kernel_rfl
    have hc : cs[0]? = some (.int .i64 m) := by
      have := hm
      unfold World.cell? at this
      simp only [hh] at this
      simpa using this
    have hcs : cs = #[.int .i64 m] := by
      apply Array.ext
      · exact hz
      · intro i h1 h2
        have h3 : i = 0 := by simp at h2; omega
        subst h3
        rw [Array.getElem?_eq_getElem h1] at hc
        exact Option.some.inj hc
    unfold World.var?
    rw [hn, Option.bind_some, hh, hcs]
theorem wrapShapedFnExactCertificateText {H : Type} {enc : TypeId × Value → H} {a : Assume} {C : Checked} {os : Os} {f : FuncId} {fn : Func} {s : ChangeSpec} {conds : List PathCond} {apart fresh handsOn again : Bool} {X : World → Array Value → Prop}
    (hX : ∀ (w w' : World) (args : Array Value), w.heap = w'.heap → X w args → X w' args)
    (own : ownKnob C.prog.godebug = none) (started : os.Started) (noInit : C.prog.inits.idxOf? f = none) (hfn : C.prog.funcs[f]? = some fn)
    (witness : ∃ (w : World) (tape : Tape) (i : Input), w.os = os ∧ (w.forCall tape i).Shaped C.prog ∧ i.vars = [] ∧ Input.okWide C.prog (w.forCall tape i) .any w.heap.size f i ∧
      ((s.pre enc C.prog fn conds apart (w.forCall tape i).memory i.args ∧ X (w.forCall tape i).memory i.args) ∧ sizedMet enc C.prog fn (OpenSpec.ofChange s) apart (w.forCall tape i).memory i.args) ∧ a.holds C.prog (lone (Frame.enter C.prog f i.args .normal) [] (w.forCall tape i)))
    (contract : ∀ (W : World) (base : Nat) (args : Array Value) (ds gs : List (DataW H)) (before : List MemPlace),
      (∀ (j : Nat) t v, fn.params[j]? = some t → args[j]? = some v → Value.okWide C.prog W .any base t v) →
      DataW.Whole enc C.prog fn.params.toList s.vars apart W args.toList ds gs before →
      conds.all (PathCond.test C.prog ⟨fn.params.toList, ds, s.plain.varTypes C.prog, gs⟩) = true → X W args → W.ShapedOpen C.prog →
      Calls C.prog f args W fun e W' => ∃ v, e = .returned v ∧ s.post enc C.prog fn apart fresh handsOn again W args v W') :
    ReturnsInHanded a C os f .any (fun w args => (s.pre enc C.prog fn conds apart w args ∧ X w args) ∧ sizedMet enc C.prog fn (OpenSpec.ofChange s) apart w args) (s.post enc C.prog fn apart fresh handsOn again) := by
  refine returnsInHanded_of_calls own started noInit witness ?_
  intro w tape i _ hsh _ hok hpre hholds
  obtain ⟨_, _, _, fn', hfn', _, _, _, _, hval⟩ := hok
  have e : fn' = fn := Option.some.inj (hfn'.symm.trans hfn)
  subst e
  obtain ⟨⟨⟨ds, gs, before, hw, hc⟩, hx⟩, hz⟩ := hpre
  have hw' := DataW.Whole.of_heap (w' := w.forCall tape i) (by rfl) hw
  refine (contract (w.forCall tape i) w.heap.size i.args ds gs before hval hw' hc (hX _ _ _ (by rfl) hx) hsh).mono fun e W' ⟨v, he, hp⟩ => ?_
  subst he
  exact ChangeSpec.post_blind hp

set_option maxRecDepth 100000 in
theorem fnExactCertificateText_lifted (os : Os) (started : os.Started) (H : Type) (enc : TypeId × Value → H) :
    ReturnsInHanded {} Tryz.checked os 4 .any (fun w args => (Rows.fnExactCertificateTextSpec.pre enc Tryz.prog Tryz.f4 Rows.fnExactCertificateTextRow.domain false w args ∧ laidMetH Tryz.prog Rows.fnExactCertificateTextRow.laid w) ∧ sizedMet enc Tryz.prog Tryz.f4 (OpenSpec.ofChange Rows.fnExactCertificateTextSpec) false w args) (Rows.fnExactCertificateTextSpec.post enc Tryz.prog Tryz.f4 false true false false) := by
  refine wrapShapedFnExactCertificateText (C := Tryz.checked) (X := fun w _ => laidMetH Tryz.prog Rows.fnExactCertificateTextRow.laid w) (fun _ _ _ hh h => h.of_heap hh) ownFnExactCertificateText started (by kernel_rfl) Tryz.func4
    (ChangeSpec.witness_shaped (enc := enc) (C := Tryz.checked) (os := os) (X := fun w _ => laidMetH Tryz.prog Rows.fnExactCertificateTextRow.laid w) false (World.doorLaid Tryz.prog 400 os) #[.agg #[.int .i64 0, .slice none 0 0]] 8 rfl (World.shaped_of_RefB (by kernel_rfl) (by kernel_rfl)) (by kernel_rfl) (by kernel_rfl) (by kernel_rfl) (allMetFnExactCertificateText os _)) ?_
  intro W base args ds gs before hval0 hW hcnd hL hSh
  have hds : ∃ d, ds = [d] := by
    obtain ⟨p, q, hA, _⟩ := hW
    have hA : DataW.TrodAll enc Tryz.prog W 0 (fun _ => true) true Tryz.f4.params.toList args.toList ds p := hA
    rw [Tryz.params4] at hA
    obtain ⟨v, d, _, h, _⟩ := trodAll_one hA
    exact ⟨d, h⟩
  obtain ⟨d, rfl⟩ := hds
  exact YtlglgcmpeabdnaaGreatDoorAi.law_post (m := 9) (tys := [YtlglgcmpeabdnaaGreatDoorAi.tyCertificate]) laidOutFnExactCertificateText rfl rfl (by kernel_rfl) (by kernel_rfl) (by decide) YtlglgcmpeabdnaaGreatDoorAi.law_certificateText ⟨rfl, rfl, rfl⟩ (goodFnExactCertificateText hL hSh) hval0 hW

theorem fnExactCertificateText_row : Rows.FnExactCertificateTextSaid :=
  OpenClaim.holds_of_wide 4 Tryz.f4 rfl rfl rfl rfl rfl rfl rfl ⟨rfl, rfl, rfl, rfl, rfl⟩ rfl rfl rfl rfl rfl (by kernel_rfl) Tryz.func4 (by kernel_rfl)
    (of_decide_eq_true (by kernel_rfl)) (by unfold Func.isWrapper; first | (rw [if_pos (by decide +kernel)]; kernel_rfl) | (rw [if_neg (by decide +kernel)]; exact ⟨rfl, rfl⟩))
    (fun os started H enc _ => fnExactCertificateText_lifted os started H enc)

theorem fnExactCertificateText_holds : Rows.FnExactCertificateTextCardSaid :=
  Claim7.holds_tied_plain_at .later [] [.data, .data, .data] true Rows.fnExactCertificateTextCard.stood.harness true
    fnExactCertificateText_row (fun _ h => by cases h) (by kernel_rfl) (fun _ h => by cases h) fnExactCertificateText_row_tie rfl ⟨rfl, rfl⟩ (by kernel_rfl) rfl
    (fun f fn hf hfn => by
      obtain rfl : f = 4 := Option.some.inj (hf.symm.trans (show Tryz.prog.funcNamed Rows.fnExactCertificateTextRow.func = some 4 by kernel_rfl))
      obtain rfl : fn = Tryz.f4 := (Option.some.inj (Tryz.func4.symm.trans hfn)).symm
      exact ⟨by kernel_rfl, fun j t ht => by
        have hall : (Tryz.f4.params.toList.all fun u => !Tryz.prog.wantsStandIn u) = true := by kernel_rfl
        have hm : t ∈ Tryz.f4.params.toList := by simpa using Array.mem_of_getElem? ht
        exact (show Tryz.prog.wantsStandIn t = false by simpa using List.all_eq_true.1 hall t hm)⟩)
    (by kernel_rfl)

end Go.Proofs.YtlglgcmpeabdnaaGreatDoor
