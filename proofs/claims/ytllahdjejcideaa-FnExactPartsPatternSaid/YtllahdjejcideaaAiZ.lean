/- What the simplifier is to take apart in conditions of code. -/
import Derived.Test.YtllahdjejcideaaAiY3
namespace Go.Proofs.YtllahdjejcideaaAi
open Go Go.RowKit
section
variable (N : Nat) (P : Program) (S : Spec) (t : Nat → AV) (A : AHeap) (K : AV → AHeap → Prop) (L : St → Prop) (Q : Ex → St → Prop)

theorem putT_eq (d : Nat) (v : AV) (i : Nat) : putT t d v i = if i = d then v else t i := rfl
theorem argT_eq (args : List AV) (i : Nat) : argT args i = (args[i]?).getD (.tup []) := rfl
def putD (t : Nat → AV) (d : Option Nat) (v : AV) : Nat → AV := match d with
  | some d => putT t d v
  | none => t
theorem putD_some (d : Nat) (v : AV) : putD t (some d) v = putT t d v := rfl
theorem putD_none (v : AV) : putD t none v = t := rfl
theorem put_mk (d : Option Nat) (v : AV) : (St.mk t A).put d v = ⟨putD t d v, A⟩ := by cases d <;> rfl
theorem okIf_true : okIf true = some () := rfl
theorem okIf_false : okIf false = none := rfl

theorem wps_nil : wps P S [] ⟨t, A⟩ L = L ⟨t, A⟩ := rfl
theorem wps_plain (d : Option Nat) (op : AOp) (r : List AOper) : wps P S (⟨d, op, none⟩ :: r) ⟨t, A⟩ L = opW P S ⟨t, A⟩ op fun v A' => wps P S r ⟨putD t d v, A'⟩ L := by
  cases d <;> rfl
theorem wps_guard (d : Option Nat) (op : AOp) (g : Nat) (b : Bool) (r : List AOper) : wps P S (⟨d, op, some (g, b)⟩ :: r) ⟨t, A⟩ L =
    optW (guardOk ⟨t, A⟩ (some (g, b))) fun gb => brW gb (opW P S ⟨t, A⟩ op fun v A' => wps P S r ⟨putD t d v, A'⟩ L) (wps P S r ⟨putD t d (.tup []), A⟩ L) := by
  cases d <;> rfl

def solidA (v : AV) : Option (List AV) := if v.solid = true then some v.cells else none
theorem opW_box (n : Nat) (x : Opd) : opW P S ⟨t, A⟩ (.box n x) K = optW (solidA (St.ev ⟨t, A⟩ x)) fun cs => K (.ptr A.n 0) (A.push cs) := by
  simp only [opW]
  unfold solidA
  split <;> rename_i h
  · rw [optW_some]; simp [h]
  · rw [optW_none]; simp [h]
theorem opW_alloc (cs : List AV) : opW P S ⟨t, A⟩ (.alloc cs) K = K (.ptr A.n 0) (A.push cs) := rfl
theorem opW_st (x : Opd) (n : Nat) (v : Opd) : opW P S ⟨t, A⟩ (.st x n v) K = optW (stG A n (St.ev ⟨t, A⟩ x) (St.ev ⟨t, A⟩ v)) fun A' => K (.tup []) A' := rfl
theorem opW_bsl (esz len : Nat) (zero : List AV) (parts : List (Nat × Opd)) : opW P S ⟨t, A⟩ (.bsl esz len zero parts) K = optW (fillA (newCells esz len zero) (parts.map fun p => (p.1 * esz, esz, St.ev ⟨t, A⟩ p.2))) fun cs =>
      brW (len == 0) (K (.sl [] true) (A.push cs)) (K (.ref A.n esz 0 len .tight) (A.push cs)) := rfl
theorem opW_mks (esz bytes : Nat) (zero : List AV) (l c : Opd) : opW P S ⟨t, A⟩ (.mks esz bytes zero l c) K = optW (intsA (St.ev ⟨t, A⟩ l) (St.ev ⟨t, A⟩ c)) fun p =>
      0 ≤ p.1 ∧ p.1 = p.2 ∧ p.1 * ((bytes : Int) + 1) ≤ (mostBytes : Int) ∧ K (.ref A.n esz 0 p.1.toNat .tight) (A.push (newCells esz p.1.toNat zero)) := rfl
theorem opW_app (esz bytes : Nat) (x y : Opd) : opW P S ⟨t, A⟩ (.app esz bytes x y) K = optW (sliceCells A esz (St.ev ⟨t, A⟩ y)) fun ys => optW (St.ev ⟨t, A⟩ y).len? fun m => appW A esz bytes (St.ev ⟨t, A⟩ x) ys m K := rfl
theorem opW_cpy (esz : Nat) (d x : Opd) : opW P S ⟨t, A⟩ (.cpy esz d x) K = optW (sliceCells A esz (St.ev ⟨t, A⟩ x)) fun ys => optW (St.ev ⟨t, A⟩ x).len? fun m => optW (cpyG A esz (St.ev ⟨t, A⟩ d) ys m) fun p => K (.int .i64 (p.1 : Nat)) p.2 := rfl
theorem opW_clr (esz : Nat) (zero : List AV) (x : Opd) : opW P S ⟨t, A⟩ (.clr esz zero x) K = optW (clrG A esz zero (St.ev ⟨t, A⟩ x)) fun A' => K (.tup []) A' := rfl
theorem opW_call (g : Opd) (args : List Opd) : opW P S ⟨t, A⟩ (.call g args) K = optW (calleeOf (St.ev ⟨t, A⟩ g)) fun p => callW P p.1 (args.map (St.ev ⟨t, A⟩) ++ p.2) A K := rfl
theorem opW_callq (g : Opd) (args : List Opd) : opW P S ⟨t, A⟩ (.callq g args) K = optW ((calleeOf (St.ev ⟨t, A⟩ g)).bind fun p => S.q p.1 (looseL (args.map (St.ev ⟨t, A⟩) ++ p.2))) fun r => K r A := rfl
theorem opW_calle (g : Opd) (args : List Opd) (cks : List (Opd × Nat × Bool)) : opW P S ⟨t, A⟩ (.calle g args cks) K = optW ((calleeOf (St.ev ⟨t, A⟩ g)).bind fun p => S.e p.1 (looseL (args.map (St.ev ⟨t, A⟩) ++ p.2)) A) fun r => cksW A r.2 (cks.map fun c => (St.ev ⟨t, A⟩ c.1, c.2)) ∧ K r.1 r.2 := rfl
theorem cksW_nil (A A' : AHeap) : cksW A A' [] = True := rfl
theorem cksW_cons (A A' : AHeap) (c : AV × Nat × Bool) (r : List (AV × Nat × Bool)) : cksW A A' (c :: r) = (ldVar A' c.1 c.2.1 c.2.2 = ldVar A c.1 c.2.1 c.2.2 ∧ cksW A A' r) := rfl
theorem opW_eqn (neg : Bool) (x : Opd) : opW P S ⟨t, A⟩ (.eqn neg x) K = optW (nilOf (St.ev ⟨t, A⟩ x)) fun q => nilW q fun r => K (.bool (if neg = true then !r else r)) A := rfl
theorem opW_eqi (neg : Bool) (x : Opd) : opW P S ⟨t, A⟩ (.eqi neg x) K = optW (nilI (St.ev ⟨t, A⟩ x)) fun r => K (.bool (if neg = true then !r else r)) A := rfl
theorem opW_bad : opW P S ⟨t, A⟩ .bad K = False := rfl
theorem opW_mv (x : Opd) : opW P S ⟨t, A⟩ (.mv x) K = optW (pureOp ⟨t, A⟩ (.mv x)) fun v => K v A := rfl
theorem opW_eqb (neg : Bool) (x y : Opd) : opW P S ⟨t, A⟩ (.eqb neg x y) K = optW (pureOp ⟨t, A⟩ (.eqb neg x y)) fun v => K v A := rfl
theorem opW_eqs (neg : Bool) (ks : List Kd) (x y : Opd) : opW P S ⟨t, A⟩ (.eqs neg ks x y) K = optW (pureOp ⟨t, A⟩ (.eqs neg ks x y)) fun v => K v A := rfl
theorem opW_pick (c a b : Opd) : opW P S ⟨t, A⟩ (.pick c a b) K = optW (pureOp ⟨t, A⟩ (.pick c a b)) fun v => K v A := rfl
theorem opW_ext (x : Opd) (i : Nat) : opW P S ⟨t, A⟩ (.ext x i) K = optW (pureOp ⟨t, A⟩ (.ext x i)) fun v => K v A := rfl
theorem opW_bin (op : BinOp) (x y : Opd) : opW P S ⟨t, A⟩ (.bin op x y) K = optW (pureOp ⟨t, A⟩ (.bin op x y)) fun v => K v A := rfl
theorem opW_un (op : UnOp) (x : Opd) : opW P S ⟨t, A⟩ (.un op x) K = optW (pureOp ⟨t, A⟩ (.un op x)) fun v => K v A := rfl
theorem opW_conv (k : IntKind) (x : Opd) : opW P S ⟨t, A⟩ (.conv k x) K = optW (pureOp ⟨t, A⟩ (.conv k x)) fun v => K v A := rfl
theorem opW_b2s (x : Opd) : opW P S ⟨t, A⟩ (.b2s x) K = optW (pureOp ⟨t, A⟩ (.b2s x)) fun v => K v A := rfl
theorem opW_cstr (x : Opd) : opW P S ⟨t, A⟩ (.cstr x) K = optW (pureOp ⟨t, A⟩ (.cstr x)) fun v => K v A := rfl
theorem opW_fad (x : Opd) (o : Nat) : opW P S ⟨t, A⟩ (.fad x o) K = optW (pureOp ⟨t, A⟩ (.fad x o)) fun v => K v A := rfl
theorem opW_fld (x : Opd) (o n : Nat) (g : Bool) : opW P S ⟨t, A⟩ (.fld x o n g) K = optW (pureOp ⟨t, A⟩ (.fld x o n g)) fun v => K v A := rfl
theorem opW_iad (e : Nat) (x i : Opd) : opW P S ⟨t, A⟩ (.iad e x i) K = optW (pureOp ⟨t, A⟩ (.iad e x i)) fun v => K v A := rfl
theorem opW_idx (x i : Opd) : opW P S ⟨t, A⟩ (.idx x i) K = optW (pureOp ⟨t, A⟩ (.idx x i)) fun v => K v A := rfl
theorem opW_nilc (x : Opd) : opW P S ⟨t, A⟩ (.nilc x) K = optW (pureOp ⟨t, A⟩ (.nilc x)) fun v => K v A := rfl
theorem opW_mkf (f : FuncId) (caps : List Opd) : opW P S ⟨t, A⟩ (.mkf f caps) K = optW (pureOp ⟨t, A⟩ (.mkf f caps)) fun v => K v A := rfl
theorem opW_sli (e : Nat) (x : Opd) (lo hi mx : Option Opd) : opW P S ⟨t, A⟩ (.sli e x lo hi mx) K = optW (pureOp ⟨t, A⟩ (.sli e x lo hi mx)) fun v => K v A := rfl
theorem opW_sls (x : Opd) (lo hi : Option Opd) : opW P S ⟨t, A⟩ (.sls x lo hi) K = optW (pureOp ⟨t, A⟩ (.sls x lo hi)) fun v => K v A := rfl
theorem opW_bld (z : List AV) (ps : List (Nat × Nat × Opd)) : opW P S ⟨t, A⟩ (.bld z ps) K = optW (pureOp ⟨t, A⟩ (.bld z ps)) fun v => K v A := rfl
theorem opW_len (x : Opd) : opW P S ⟨t, A⟩ (.len x) K = optW (pureOp ⟨t, A⟩ (.len x)) fun v => K v A := rfl
theorem opW_lens (x : Opd) : opW P S ⟨t, A⟩ (.lens x) K = optW (pureOp ⟨t, A⟩ (.lens x)) fun v => K v A := rfl
theorem opW_ld (x : Opd) (n : Nat) (g : Bool) : opW P S ⟨t, A⟩ (.ld x n g) K = optW (pureOp ⟨t, A⟩ (.ld x n g)) fun v => K v A := rfl
theorem opW_max (x y : Opd) : opW P S ⟨t, A⟩ (.max x y) K = optW (pureOp ⟨t, A⟩ (.max x y)) fun v => K v A := rfl
theorem opW_min (x y : Opd) : opW P S ⟨t, A⟩ (.min x y) K = optW (pureOp ⟨t, A⟩ (.min x y)) fun v => K v A := rfl

theorem endW_eq1 (rs : List ARes) (R : AV → AHeap → Prop) : endW N rs R .normal ⟨t, A⟩ = optW (resultsA ⟨t, A⟩ rs) fun r => ∃ r' A', EndS N r A r' A' ∧ R r' A' := rfl
theorem endW_eq2 (rs : List ARes) (R : AV → AHeap → Prop) : endW N rs R .ret ⟨t, A⟩ = optW (resultsA ⟨t, A⟩ rs) fun r => ∃ r' A', EndS N r A r' A' ∧ R r' A' := rfl
theorem endP_eq1 (rs : List ARes) (r : AV) : endP rs r .normal ⟨t, A⟩ = optW (resultsA ⟨t, A⟩ rs) fun v => v = r := rfl
theorem endP_eq2 (rs : List ARes) (r : AV) : endP rs r .ret ⟨t, A⟩ = optW (resultsA ⟨t, A⟩ rs) fun v => v = r := rfl

theorem ldCells_1 (p : AV) : ldCells A p 1 = (ldCell A p).map fun c => [c] := by
  have h : ∀ p c, ldCell A p = some c → p.addOff 0 = some p := by
    intro p c h
    cases p <;> first | rfl | (cases h)
  simp only [ldCells, Option.bind_some]
  cases hc : ldCell A p with
  | none =>
    cases hp : p.addOff 0 with
    | none => rfl
    | some q => cases p <;> simp_all [AV.addOff] <;> (subst hp; simp [hc])
  | some c => simp [h p c hc, hc]

end

theorem nil_mk : AHeap.nil = ⟨[]⟩ := rfl
theorem push_mk (l : List (Option (List AV))) (cs : List AV) : (AHeap.mk l).push cs = ⟨l ++ [some cs]⟩ := rfl
theorem set_mk (l : List (Option (List AV))) (b : Nat) (cs : List AV) : (AHeap.mk l).set b cs = ⟨hset l b (some cs)⟩ := rfl
theorem del_mk (l : List (Option (List AV))) (b : Nat) : (AHeap.mk l).del b = ⟨hset l b none⟩ := rfl
theorem n_mk (l : List (Option (List AV))) : (AHeap.mk l).n = l.length := rfl
theorem hget_nil (i : Nat) : hget [] i = none := rfl
theorem hget_cons (o : Option (List AV)) (r : List (Option (List AV))) (i : Nat) : hget (o :: r) i = if i = 0 then o else hget r (i - 1) := rfl
theorem hset_nil (i : Nat) (x : Option (List AV)) : hset [] i x = [] := rfl
theorem hset_cons (o : Option (List AV)) (r : List (Option (List AV))) (i : Nat) (x : Option (List AV)) : hset (o :: r) i x = if i = 0 then x :: r else o :: hset r (i - 1) x := rfl
theorem tl_nil (i : Nat) : tl [] i = .any := rfl
theorem tl_cons (k : Nat) (v : AV) (r : List (Nat × AV)) (i : Nat) : tl ((k, v) :: r) i = if i = k then v else tl r i := rfl

theorem pick_true (a b : AV) : pickA (.bool true) a b = some a := rfl
theorem pick_false (a b : AV) : pickA (.bool false) a b = some b := rfl
theorem pick_and (x y : Bool) : pickA (.bool x) (.bool y) (.bool false) = some (.bool (x && y)) := by cases x <;> rfl
theorem pick_or (x z : Bool) : pickA (.bool x) (.bool true) (.bool z) = some (.bool (x || z)) := by cases x <;> rfl
theorem tab_q (l : List (FuncId × (List AV → Option AV))) (l2 : List (FuncId × (List AV → AHeap → Option (AV × AHeap)))) : (tab l l2).q = tabQ l := rfl
theorem tab_e (l : List (FuncId × (List AV → Option AV))) (l2 : List (FuncId × (List AV → AHeap → Option (AV × AHeap)))) : (tab l l2).e = tabE l2 := rfl
theorem tabQ_nil (f : FuncId) (args : List AV) : tabQ [] f args = none := rfl
theorem tabQ_cons (g : FuncId) (sp : List AV → Option AV) (l : List (FuncId × (List AV → Option AV))) (f : FuncId) (args : List AV) : tabQ ((g, sp) :: l) f args = if f = g then sp args else tabQ l f args := rfl
theorem tabE_nil (f : FuncId) (args : List AV) (A : AHeap) : tabE [] f args A = none := rfl
theorem tabE_cons (g : FuncId) (sp : List AV → AHeap → Option (AV × AHeap)) (l : List (FuncId × (List AV → AHeap → Option (AV × AHeap)))) (f : FuncId) (args : List AV) (A : AHeap) : tabE ((g, sp) :: l) f args A = if f = g then sp args A else tabE l f args A := rfl
theorem spM_ptr (sp : List AV → List AV → Option (AV × List AV)) (b : Nat) (args : List AV) (A : AHeap) : spM sp (.ptr b 0 :: args) A = (A b).bind fun cs => (sp (looseL cs) args).map fun p => (p.1, A.set b p.2) := rfl
theorem spB_ptr (sp : List AV → List AV → Option (AV × List (Option (List AV)))) (b o : Nat) (args : List AV) (A : AHeap) : spB sp (.ptr b o :: args) A = (A b).bind fun cs => if ltL 0 args = true then (sp (looseL cs) (.ptr 0 o :: args)).map fun q => (q.1.ren (ext1 b A.n), ⟨upd1 A.l b q.2⟩) else none := rfl
theorem spB_ref (sp : List AV → List AV → Option (AV × List (Option (List AV)))) (b e o n : Nat) (t : Cp) (args : List AV) (A : AHeap) : spB sp (.ref b e o n t :: args) A = (A b).bind fun cs => if ltL 0 args = true then (sp (looseL cs) (.ref 0 e o n t :: args)).map fun q => (q.1.ren (ext1 b A.n), ⟨upd1 A.l b q.2⟩) else none := rfl
theorem spR_eq (sp : List AV → Option AV) (args : List AV) (A : AHeap) : spR sp args A = (seeL A args).bind fun a => (sp a).bind fun r => if r.flat = true then some (r, A) else none := rfl
theorem spRN_eq (sp : List AV → Option (AV × List (Option (List AV)))) (args : List AV) (A : AHeap) : spRN sp args A = (seeL A args).bind fun a => (sp a).bind fun p => if p.1.flat = true ∧ flatO p.2 = true then some (p.1.ren (shiftN A.n), addObjs A p.2) else none := rfl
theorem spV_eq (sp : List (Option (List AV)) → List AV → Option (AV × List (Option (List AV)))) (args : List AV) (A : AHeap) : spV sp args A = spV' sp args A (reachV A args) := rfl
theorem refE_eq (a b : List AV → AHeap → Option (AV × AHeap)) (args : List AV) (A : AHeap) : refE a b args A = if (nmsL args).isEmpty = true then b args A else a args A := rfl
theorem orE_eq (a b : List AV → AHeap → Option (AV × AHeap)) (args : List AV) (A : AHeap) : orE a b args A = (a args A).elim (b args A) some := by unfold orE; cases a args A <;> rfl
theorem spB_sl (sp : List AV → List AV → Option (AV × List (Option (List AV)))) (xs : List AV) (t : Bool) (args : List AV) (A : AHeap) : spB sp (.sl xs t :: args) A = none := rfl
theorem spN_eq (sp : List AV → Option (AV × List (Option (List AV)))) (args : List AV) (A : AHeap) : spN sp args A = (sp args).map fun p => (p.1.ren (shiftN A.n), addObjs A p.2) := rfl
theorem addObjs_mk (l os : List (Option (List AV))) : addObjs ⟨l⟩ os = ⟨l ++ os.map (Option.map (renL (shiftN l.length)))⟩ := rfl
theorem shiftN_eq (n b : Nat) : shiftN n b = n + b := rfl
theorem frzT_mk (t : Nat → AV) (l : List (Option (List AV))) (k b : Nat) (v : AV) : (St.mk t ⟨l⟩).frzT k b v = ⟨putT t k v, ⟨hset l b none⟩⟩ := rfl
theorem wrapI64 {n : Int} (h1 : -9223372036854775808 ≤ n) (h2 : n ≤ 9223372036854775807) : IntKind.i64.wrap n = n := by
  simp only [IntKind.wrap, IntKind.bits, IntKind.signed]
  have : (2 : Int) ^ 64 = 18446744073709551616 := by decide
  have : (2 : Int) ^ (64 - 1) = 9223372036854775808 := by decide
  simp only [*, Bool.true_and, decide_eq_true_eq]
  split <;> omega

attribute [simp ↓] wps_nil wps_plain wps_guard wpc opW_box opW_alloc opW_st opW_bsl opW_mks opW_app opW_cpy opW_clr opW_call opW_callq opW_calle opW_eqn opW_eqi opW_bad opW_mv opW_eqb opW_eqs opW_pick opW_ext opW_bin opW_un opW_conv
  opW_b2s opW_cstr opW_fad opW_fld opW_iad opW_idx opW_nilc opW_mkf opW_sli opW_sls opW_bld opW_len opW_lens opW_ld opW_max opW_min endW_eq1 endW_eq2 endP_eq1 endP_eq2 endH_eq1 endH_eq2
attribute [simp] frzT_mk brW_true brW_false optW_some optW_none okIf_true okIf_false putT_eq argT_eq putD_some putD_none solidA nil_mk push_mk set_mk del_mk n_mk hget_nil hget_cons hset_nil hset_cons tl_nil tl_cons hget_append
  pureOp guardOk St.ev initSt pick_and pick_or pick_true pick_false extA binA unA eqbA eqsA convA cstrA fldA eltA iadA idxA nilcA slsA maxA minA optMax optNat
  intBin ldVar ldCell ldCells AV.addOff elemCell AV.len? AV.strlen? AV.solid AV.one stA stG intsA cpyG clrG nilOf nilI nilW boolOf setCells calleeOf endW resultsA resA sliceCells sliceA maxOk maxTight maxCp fillA onesOf byteOf cellsEq cellEq newCells appW
  tab_q tab_e tabQ_nil tabQ_cons cksW_nil cksW_cons tabE_nil tabE_cons pm pb spB_ptr spB_ref upd1 ext1 spM_ptr spN_eq spR_eq spRN_eq spV_eq spV' reachV reachN addN cellN hasN nmsL AV.nms nodupN okN allN objsN idxN atN extN upd refE_eq orE_eq spB_sl pv seeV_bool seeV_int seeV_str seeV_nilp seeV_nilf seeV_sl seeV_agg seeV_ref seeL_nil seeL_cons AV.flat flatL flatO addObjs_mk shiftN_eq AV.ren renL AV.lt ltL AV.loose looseL

end Go.Proofs.YtllahdjejcideaaAi
