/- What the simplifier is to take apart in conditions of code. -/
import Derived.Test.YtllahdjejcideaaAiY
namespace Go.Proofs.YtllahdjejcideaaAi
open Go Go.RowKit
section
variable (P : Program) (S : Spec) (t : Nat → AV) (A : AHeap) (K : AV → AHeap → Prop) (L : St → Prop) (Q : Ex → St → Prop)

theorem putT_eq (d : Nat) (v : AV) (i : Nat) : putT t d v i = if i = d then v else t i := rfl
theorem argT_eq (args : List AV) (i : Nat) : argT args i = (args[i]?).getD (.tup []) := rfl
def putD (t : Nat → AV) (d : Option Nat) (v : AV) : Nat → AV := match d with
  | some d => putT t d v
  | none => t
theorem putD_some (d : Nat) (v : AV) : putD t (some d) v = putT t d v := rfl
theorem putD_none (v : AV) : putD t none v = t := rfl
theorem put_mk (d : Option Nat) (v : AV) : (St.mk t A).put d v = ⟨putD t d v, A⟩ := by cases d <;> rfl
theorem okIf_true : okIf true = some () := rfl
theorem okIf_false : okIf false = none := rfl

theorem wps_nil : wps P S [] ⟨t, A⟩ L = L ⟨t, A⟩ := rfl
theorem wps_plain (d : Option Nat) (op : AOp) (r : List AOper) : wps P S (⟨d, op, none⟩ :: r) ⟨t, A⟩ L = opW P S ⟨t, A⟩ op fun v A' => wps P S r ⟨putD t d v, A'⟩ L := by
  cases d <;> rfl
theorem wps_guard (d : Option Nat) (op : AOp) (g : Nat) (b : Bool) (r : List AOper) : wps P S (⟨d, op, some (g, b)⟩ :: r) ⟨t, A⟩ L =
    brW (guardOk ⟨t, A⟩ (some (g, b))) (opW P S ⟨t, A⟩ op fun v A' => wps P S r ⟨putD t d v, A'⟩ L) (wps P S r ⟨putD t d (.tup []), A⟩ L) := by
  cases d <;> rfl

def solidA (v : AV) : Option (List AV) := if v.solid = true then some v.cells else none
theorem opW_box (n : Nat) (x : Opd) : opW P S ⟨t, A⟩ (.box n x) K = optW (solidA (St.ev ⟨t, A⟩ x)) fun cs => allocW A fun b => K (.ptr b 0) (A.set b cs) := by
  simp only [opW]
  unfold solidA
  split <;> rename_i h
  · rw [optW_some]; simp [h]
  · rw [optW_none]; simp [h]
theorem opW_alloc (cs : List AV) : opW P S ⟨t, A⟩ (.alloc cs) K = allocW A fun b => K (.ptr b 0) (A.set b cs) := rfl
theorem opW_st (x : Opd) (n : Nat) (v : Opd) : opW P S ⟨t, A⟩ (.st x n v) K = optW (stG A n (St.ev ⟨t, A⟩ x) (St.ev ⟨t, A⟩ v)) fun A' => K (.tup []) A' := rfl
theorem opW_bsl (esz len : Nat) (zero : List AV) (parts : List (Nat × Opd)) : opW P S ⟨t, A⟩ (.bsl esz len zero parts) K = optW (fillA (newCells esz len zero) (parts.map fun p => (p.1 * esz, esz, St.ev ⟨t, A⟩ p.2))) fun cs =>
      brW (len == 0) (K (.sl [] true) A) (allocW A fun b => K (.ref b esz 0 len .tight) (A.set b cs)) := rfl
theorem opW_mks (esz bytes : Nat) (zero : List AV) (l c : Opd) : opW P S ⟨t, A⟩ (.mks esz bytes zero l c) K = optW (intsA (St.ev ⟨t, A⟩ l) (St.ev ⟨t, A⟩ c)) fun p =>
      0 ≤ p.1 ∧ p.1 = p.2 ∧ p.1 * ((bytes : Int) + 1) ≤ (mostBytes : Int) ∧ allocW A fun b => K (.ref b esz 0 p.1.toNat .tight) (A.set b (newCells esz p.1.toNat zero)) := rfl
theorem opW_app (esz bytes : Nat) (x y : Opd) : opW P S ⟨t, A⟩ (.app esz bytes x y) K = optW (sliceCells A esz (St.ev ⟨t, A⟩ y)) fun ys => optW (St.ev ⟨t, A⟩ y).len? fun m => appW A esz bytes (St.ev ⟨t, A⟩ x) ys m K := rfl
theorem opW_cpy (esz : Nat) (d x : Opd) : opW P S ⟨t, A⟩ (.cpy esz d x) K = optW (sliceCells A esz (St.ev ⟨t, A⟩ x)) fun ys => optW (St.ev ⟨t, A⟩ x).len? fun m => optW (cpyG A esz (St.ev ⟨t, A⟩ d) ys m) fun p => K (.int .i64 (p.1 : Nat)) p.2 := rfl
theorem opW_clr (esz : Nat) (zero : List AV) (x : Opd) : opW P S ⟨t, A⟩ (.clr esz zero x) K = optW (clrG A esz zero (St.ev ⟨t, A⟩ x)) fun A' => K (.tup []) A' := rfl
theorem opW_call (g : Opd) (args : List Opd) : opW P S ⟨t, A⟩ (.call g args) K = optW (calleeOf (St.ev ⟨t, A⟩ g)) fun p => callW P p.1 (args.map (St.ev ⟨t, A⟩) ++ p.2) A K := rfl
theorem opW_callq (g : Opd) (args : List Opd) : opW P S ⟨t, A⟩ (.callq g args) K = optW ((calleeOf (St.ev ⟨t, A⟩ g)).bind fun p => S p.1 (args.map (St.ev ⟨t, A⟩) ++ p.2)) fun r => K r A := rfl
theorem opW_eqn (neg : Bool) (x : Opd) : opW P S ⟨t, A⟩ (.eqn neg x) K = optW (nilOf (St.ev ⟨t, A⟩ x)) fun q => nilW q fun r => K (.bool (if neg = true then !r else r)) A := rfl
theorem opW_eqi (neg : Bool) (x : Opd) : opW P S ⟨t, A⟩ (.eqi neg x) K = optW (nilI (St.ev ⟨t, A⟩ x)) fun r => K (.bool (if neg = true then !r else r)) A := rfl
theorem opW_bad : opW P S ⟨t, A⟩ .bad K = False := rfl
theorem opW_mv (x : Opd) : opW P S ⟨t, A⟩ (.mv x) K = optW (pureOp ⟨t, A⟩ (.mv x)) fun v => K v A := rfl
theorem opW_eqb (neg : Bool) (x y : Opd) : opW P S ⟨t, A⟩ (.eqb neg x y) K = optW (pureOp ⟨t, A⟩ (.eqb neg x y)) fun v => K v A := rfl
theorem opW_eqs (neg : Bool) (ks : List Kd) (x y : Opd) : opW P S ⟨t, A⟩ (.eqs neg ks x y) K = optW (pureOp ⟨t, A⟩ (.eqs neg ks x y)) fun v => K v A := rfl
theorem opW_pick (c a b : Opd) : opW P S ⟨t, A⟩ (.pick c a b) K = optW (pureOp ⟨t, A⟩ (.pick c a b)) fun v => K v A := rfl
theorem opW_ext (x : Opd) (i : Nat) : opW P S ⟨t, A⟩ (.ext x i) K = optW (pureOp ⟨t, A⟩ (.ext x i)) fun v => K v A := rfl
theorem opW_bin (op : BinOp) (x y : Opd) : opW P S ⟨t, A⟩ (.bin op x y) K = optW (pureOp ⟨t, A⟩ (.bin op x y)) fun v => K v A := rfl
theorem opW_un (op : UnOp) (x : Opd) : opW P S ⟨t, A⟩ (.un op x) K = optW (pureOp ⟨t, A⟩ (.un op x)) fun v => K v A := rfl
theorem opW_conv (k : IntKind) (x : Opd) : opW P S ⟨t, A⟩ (.conv k x) K = optW (pureOp ⟨t, A⟩ (.conv k x)) fun v => K v A := rfl
theorem opW_b2s (x : Opd) : opW P S ⟨t, A⟩ (.b2s x) K = optW (pureOp ⟨t, A⟩ (.b2s x)) fun v => K v A := rfl
theorem opW_cstr (x : Opd) : opW P S ⟨t, A⟩ (.cstr x) K = optW (pureOp ⟨t, A⟩ (.cstr x)) fun v => K v A := rfl
theorem opW_fad (x : Opd) (o : Nat) : opW P S ⟨t, A⟩ (.fad x o) K = optW (pureOp ⟨t, A⟩ (.fad x o)) fun v => K v A := rfl
theorem opW_fld (x : Opd) (o n : Nat) (g : Bool) : opW P S ⟨t, A⟩ (.fld x o n g) K = optW (pureOp ⟨t, A⟩ (.fld x o n g)) fun v => K v A := rfl
theorem opW_iad (e : Nat) (x i : Opd) : opW P S ⟨t, A⟩ (.iad e x i) K = optW (pureOp ⟨t, A⟩ (.iad e x i)) fun v => K v A := rfl
theorem opW_idx (x i : Opd) : opW P S ⟨t, A⟩ (.idx x i) K = optW (pureOp ⟨t, A⟩ (.idx x i)) fun v => K v A := rfl
theorem opW_nilc (x : Opd) : opW P S ⟨t, A⟩ (.nilc x) K = optW (pureOp ⟨t, A⟩ (.nilc x)) fun v => K v A := rfl
theorem opW_mkf (f : FuncId) (caps : List Opd) : opW P S ⟨t, A⟩ (.mkf f caps) K = optW (pureOp ⟨t, A⟩ (.mkf f caps)) fun v => K v A := rfl
theorem opW_sli (e : Nat) (x : Opd) (lo hi mx : Option Opd) : opW P S ⟨t, A⟩ (.sli e x lo hi mx) K = optW (pureOp ⟨t, A⟩ (.sli e x lo hi mx)) fun v => K v A := rfl
theorem opW_sls (x : Opd) (lo hi : Option Opd) : opW P S ⟨t, A⟩ (.sls x lo hi) K = optW (pureOp ⟨t, A⟩ (.sls x lo hi)) fun v => K v A := rfl
theorem opW_bld (z : List AV) (ps : List (Nat × Nat × Opd)) : opW P S ⟨t, A⟩ (.bld z ps) K = optW (pureOp ⟨t, A⟩ (.bld z ps)) fun v => K v A := rfl
theorem opW_len (x : Opd) : opW P S ⟨t, A⟩ (.len x) K = optW (pureOp ⟨t, A⟩ (.len x)) fun v => K v A := rfl
theorem opW_lens (x : Opd) : opW P S ⟨t, A⟩ (.lens x) K = optW (pureOp ⟨t, A⟩ (.lens x)) fun v => K v A := rfl
theorem opW_ld (x : Opd) (n : Nat) (g : Bool) : opW P S ⟨t, A⟩ (.ld x n g) K = optW (pureOp ⟨t, A⟩ (.ld x n g)) fun v => K v A := rfl
theorem opW_max (x y : Opd) : opW P S ⟨t, A⟩ (.max x y) K = optW (pureOp ⟨t, A⟩ (.max x y)) fun v => K v A := rfl
theorem opW_min (x y : Opd) : opW P S ⟨t, A⟩ (.min x y) K = optW (pureOp ⟨t, A⟩ (.min x y)) fun v => K v A := rfl

theorem endW_eq1 (rs : List ARes) (R : AV → AHeap → Prop) : endW rs R .normal ⟨t, A⟩ = optW (resultsA ⟨t, A⟩ rs) fun r => ∃ A', A'.le A ∧ R r A' := rfl
theorem endW_eq2 (rs : List ARes) (R : AV → AHeap → Prop) : endW rs R .ret ⟨t, A⟩ = optW (resultsA ⟨t, A⟩ rs) fun r => ∃ A', A'.le A ∧ R r A' := rfl

theorem endQ_eq1 (rs : List ARes) (r : AV) (B : AHeap) : endQ rs r B .normal ⟨t, A⟩ = optW (resultsA ⟨t, A⟩ rs) fun v => B.le A ∧ v = r := rfl
theorem endQ_eq2 (rs : List ARes) (r : AV) (B : AHeap) : endQ rs r B .ret ⟨t, A⟩ = optW (resultsA ⟨t, A⟩ rs) fun v => B.le A ∧ v = r := rfl

theorem ldCells_1 (p : AV) : ldCells A p 1 = (ldCell A p).map fun c => [c] := by
  have h : ∀ p c, ldCell A p = some c → p.addOff 0 = some p := by
    intro p c h
    cases p <;> first | rfl | (cases h)
  simp only [ldCells, Option.bind_some]
  cases hc : ldCell A p with
  | none =>
    cases hp : p.addOff 0 with
    | none => rfl
    | some q => cases p <;> simp_all [AV.addOff] <;> (subst hp; simp [hc])
  | some c => simp [h p c hc, hc]

end

theorem AHeap.set_apply (A : AHeap) (b : Nat) (cs : List AV) (i : Nat) : (A.set b cs) i = if i = b then some cs else A i := rfl
theorem AHeap.del_apply (A : AHeap) (b : Nat) (i : Nat) : (A.del b) i = if i = b then none else A i := rfl
theorem AHeap.set_none (A : AHeap) (b : Nat) (cs : List AV) (i : Nat) : (A.set b cs) i = none ↔ i ≠ b ∧ A i = none := by
  unfold AHeap.set
  split <;> simp_all
theorem AHeap.le_set' {A A' : AHeap} {b : Nat} {cs : List AV} (h : A'.le A) (hb : A' b = none) : A'.le (A.set b cs) := fun i c e => by
  by_cases hi : i = b
  · subst hi; rw [hb] at e; cases e
  · rw [AHeap.set_ne _ _ _ hi]; exact h i c e

theorem pick_true (a b : AV) : pickA (.bool true) a b = some a := rfl
theorem pick_false (a b : AV) : pickA (.bool false) a b = some b := rfl
theorem pick_and (x y : Bool) : pickA (.bool x) (.bool y) (.bool false) = some (.bool (x && y)) := by cases x <;> rfl
theorem pick_or (x z : Bool) : pickA (.bool x) (.bool true) (.bool z) = some (.bool (x || z)) := by cases x <;> rfl
theorem tab_nil (f : FuncId) (args : List AV) : tab [] f args = none := rfl
theorem tab_cons (g : FuncId) (sp : List AV → Option AV) (l : List (FuncId × (List AV → Option AV))) (f : FuncId) (args : List AV) : tab ((g, sp) :: l) f args = if f = g then sp args else tab l f args := rfl

theorem AHeap.le_del' {A A' : AHeap} {b : Nat} (h : A'.le A) (hb : A' b = none) : A'.le (A.del b) := fun i c e => by
  by_cases hi : i = b
  · subst hi; rw [hb] at e; cases e
  · simpa [AHeap.del, hi] using h i c e

theorem frzT_mk (t : Nat → AV) (A : AHeap) (k b : Nat) (v : AV) : (St.mk t A).frzT k b v = ⟨putT t k v, A.del b⟩ := rfl
theorem AHeap.le_self (A : AHeap) : A.le A ↔ True := ⟨fun _ => trivial, fun _ => AHeap.le.refl A⟩

def idxOf : AV → Nat
  | .int _ i => i.toNat
  | _ => 0
/-- A loop that counts up in a temporary. -/
theorem wpLoop_idx {P : Program} {S : Spec} {c : AC} {s : St} {Q : Ex → St → Prop} {h : Hold (wpc P S c)} {h' : Hold Q} (k n i0 : Nat) (J : Nat → St → Prop) (h0 : i0 ≤ n) (hk : s.t k = .int .i64 (i0 : Int)) (hJ : J i0 s)
    (hr : ∀ (i : Nat) (t : Nat → AV) (A : AHeap), i ≤ n → t k = .int .i64 (i : Int) → J i ⟨t, A⟩ → wpc P S c ⟨t, A⟩ fun e s' => match e with
      | .normal => i + 1 ≤ n ∧ s'.t k = .int .i64 ((i : Int) + 1) ∧ J (i + 1) s'
      | e => Q e s') : wpLoop (wpc P S c) s Q h h' := by
  refine ⟨fun s => ∃ i : Nat, i ≤ n ∧ s.t k = .int .i64 (i : Int) ∧ J i s, fun s => n - idxOf (s.t k), ⟨i0, h0, hk, hJ⟩, fun s1 ⟨i, hi, hki, hJi⟩ => ?_⟩
  obtain ⟨t, A⟩ := s1
  refine wpc_mono c (fun e s' he => ?_) _ (hr i t A hi hki hJi)
  cases e with
  | normal =>
    obtain ⟨h1, h2, h3⟩ := he
    refine ⟨⟨i + 1, h1, by rw [h2]; simp, h3⟩, ?_⟩
    show n - idxOf (s'.t k) < n - idxOf (t k)
    have hki' : t k = .int .i64 (i : Int) := hki
    rw [h2, hki']
    simp only [idxOf]
    omega
  | exit id => exact he
  | ret => exact he

theorem wrapI64 {n : Int} (h1 : -9223372036854775808 ≤ n) (h2 : n ≤ 9223372036854775807) : IntKind.i64.wrap n = n := by
  simp only [IntKind.wrap, IntKind.bits, IntKind.signed]
  have : (2 : Int) ^ 64 = 18446744073709551616 := by decide
  have : (2 : Int) ^ (64 - 1) = 9223372036854775808 := by decide
  simp only [*, Bool.true_and, decide_eq_true_eq]
  split <;> omega

attribute [simp ↓] wps_nil wps_plain wps_guard wpc opW_box opW_alloc opW_st opW_bsl opW_mks opW_app opW_cpy opW_clr opW_call opW_callq opW_eqn opW_eqi opW_bad opW_mv opW_eqb opW_eqs opW_pick opW_ext opW_bin opW_un opW_conv
  opW_b2s opW_cstr opW_fad opW_fld opW_iad opW_idx opW_nilc opW_mkf opW_sli opW_sls opW_bld opW_len opW_lens opW_ld opW_max opW_min endW_eq1 endW_eq2 endQ_eq1 endQ_eq2
attribute [simp] frzT_mk AHeap.le_self brW_true brW_false optW_some optW_none okIf_true okIf_false putT_eq argT_eq putD_some putD_none solidA AHeap.set_apply AHeap.del_apply
  pureOp guardOk St.ev initSt pick_and pick_or pick_true pick_false extA binA unA eqbA eqsA convA cstrA fldA eltA iadA idxA nilcA slsA maxA minA optMax optNat
  intBin ldVar ldCell ldCells AV.addOff elemCell AV.len? AV.strlen? AV.solid AV.one stA stG intsA cpyG clrG nilOf nilI nilW boolOf setCells calleeOf endW resultsA resA sliceCells sliceA maxOk maxTight maxCp fillA onesOf byteOf cellsEq cellEq newCells appW
  tab_nil tab_cons

end Go.Proofs.YtllahdjejcideaaAi
