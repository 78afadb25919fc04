/- Contracts, joined. -/
import Derived.Test.YtgophedkejgedaaGreatDoorMrs1
import Derived.Test.YtgophedkejgedaaGreatDoorAiX
import Derived.Test.YtgophedkejgedaaGreatDoorProg
import Derived.Test.YtgophedkejgedaaGreatDoorShelfA
section
/- Contracts: marks in patterns. -/
namespace Go.Proofs.YtgophedkejgedaaGreatDoorAi
open Go Go.RowKit
set_option linter.unusedVariables false
set_option linter.unusedSimpArgs false
set_option maxRecDepth 20000

def kOk (k : Int) : Prop := 0 ≤ k ∧ k ≤ 1099511627776
noncomputable def sp_markFr : List (Option (List AV)) → List AV → Option (AV × List (Option (List AV))) := pv (pf (ι := (List Fr) × (Int) × (Cp)) (α := AV × List (Option (List AV))) (fun ⟨ps, k, t⟩ => kOk k ∧ ps.length ≤ 1048576) (fun i => .agg (((fun ⟨ps, k, t⟩ => [some (flatA (frsA ps))] : (List Fr) × (Int) × (Cp) → List (Option (List AV))) i).map enO) :: (fun ⟨ps, k, t⟩ => [.ref 0 2 0 ps.length t, .int .i64 k] : (List Fr) × (Int) × (Cp) → List AV) i) (fun ⟨ps, k, t⟩ => (.int .i64 (k + 2 * ps.length), [some (flatA (frsA (marksF ps.length k)))])))
theorem sp_markFr_eq (ps : List Fr) (k : Int) (t : Cp) (h : kOk k ∧ ps.length ≤ 1048576) : sp_markFr [some (flatA (frsA ps))] [.ref 0 2 0 ps.length t, .int .i64 k] = some (.int .i64 (k + 2 * ps.length), [some (flatA (frsA (marksF ps.length k)))]) := by
  unfold sp_markFr pv
  exact pf_eq (ι := (List Fr) × (Int) × (Cp)) (α := AV × List (Option (List AV))) (ps, k, t) h (by rintro ⟨ps', k', t'⟩ _ e; simp_all [enO, Int.natCast_inj])
noncomputable def sp_markFr0 : List AV → Option (AV) := pf (ι := (Int)) (α := AV) (fun k => True) (fun k => [.sl [] false, .int .i64 k]) (fun k => .int .i64 k)
theorem sp_markFr0_eq (k : Int) : sp_markFr0 [.sl [] false, .int .i64 k] = some (.int .i64 k) := by
  unfold sp_markFr0
  exact pf_eq (ι := (Int)) (α := AV) k trivial (by rintro k' _ e; simp_all [Int.natCast_inj])
attribute [simp] sp_markFr0_eq
noncomputable def sp_heldFr : List AV → Option (AV) := pf (ι := (Nat) × (Int)) (α := AV) (fun ⟨n, k⟩ => kOk k ∧ n ≤ 1048576) (fun ⟨n, k⟩ => [.sl (frsA (marksF n k)) false, .int .i64 k]) (fun ⟨n, k⟩ => .int .i64 (k + 2 * n))
theorem sp_heldFr_eq (n : Nat) (k : Int) (h : kOk k ∧ n ≤ 1048576) : sp_heldFr [.sl (frsA (marksF n k)) false, .int .i64 k] = some (.int .i64 (k + 2 * n)) := by
  unfold sp_heldFr
  exact pf_eq (ι := (Nat) × (Int)) (α := AV) (n, k) h (by rintro ⟨n', k'⟩ _ e; simp_all [Int.natCast_inj])
noncomputable def sp_markPat : List (Option (List AV)) → List AV → Option (AV × List (Option (List AV))) := pv (pf (ι := (Int) × (Int) × (Int) × (List Fr) × (Int) × (Cp)) (α := AV × List (Option (List AV))) (fun ⟨a, b, c, ps, k, t⟩ => kOk k ∧ ps.length ≤ 1048576) (fun i => .agg (((fun ⟨a, b, c, ps, k, t⟩ => [some (flatA (frsA ps))] : (Int) × (Int) × (Int) × (List Fr) × (Int) × (Cp) → List (Option (List AV))) i).map enO) :: (fun ⟨a, b, c, ps, k, t⟩ => [.agg [.int .i64 a, .int .u32 b, .int .u32 c, .ref 0 2 0 ps.length t], .int .i64 k] : (Int) × (Int) × (Int) × (List Fr) × (Int) × (Cp) → List AV) i) (fun ⟨a, b, c, ps, k, t⟩ => (.int .i64 (k + 2 * ps.length), [some (flatA (frsA (marksF ps.length k)))])))
theorem sp_markPat_eq (a b c : Int) (ps : List Fr) (k : Int) (t : Cp) (h : kOk k ∧ ps.length ≤ 1048576) : sp_markPat [some (flatA (frsA ps))] [.agg [.int .i64 a, .int .u32 b, .int .u32 c, .ref 0 2 0 ps.length t], .int .i64 k] = some (.int .i64 (k + 2 * ps.length), [some (flatA (frsA (marksF ps.length k)))]) := by
  unfold sp_markPat pv
  exact pf_eq (ι := (Int) × (Int) × (Int) × (List Fr) × (Int) × (Cp)) (α := AV × List (Option (List AV))) (a, b, c, ps, k, t) h (by rintro ⟨a', b', c', ps', k', t'⟩ _ e; simp_all [enO, Int.natCast_inj])
noncomputable def sp_markPat0 : List AV → Option (AV) := pf (ι := (Int) × (Int) × (Int) × (Int)) (α := AV) (fun ⟨a, b, c, k⟩ => True) (fun ⟨a, b, c, k⟩ => [.agg [.int .i64 a, .int .u32 b, .int .u32 c, .sl [] false], .int .i64 k]) (fun ⟨a, b, c, k⟩ => .int .i64 k)
theorem sp_markPat0_eq (a b c k : Int) : sp_markPat0 [.agg [.int .i64 a, .int .u32 b, .int .u32 c, .sl [] false], .int .i64 k] = some (.int .i64 k) := by
  unfold sp_markPat0
  exact pf_eq (ι := (Int) × (Int) × (Int) × (Int)) (α := AV) (a, b, c, k) trivial (by rintro ⟨a', b', c', k'⟩ _ e; simp_all [Int.natCast_inj])
attribute [simp] sp_markPat0_eq
noncomputable def sp_heldPat : List AV → Option (AV) := pf (ι := (Int) × (Int) × (Int) × (Nat) × (Int)) (α := AV) (fun ⟨a, b, c, n, k⟩ => kOk k ∧ n ≤ 1048576) (fun ⟨a, b, c, n, k⟩ => [.agg [.int .i64 a, .int .u32 b, .int .u32 c, .sl (frsA (marksF n k)) false], .int .i64 k]) (fun ⟨a, b, c, n, k⟩ => .int .i64 (k + 2 * n))
theorem sp_heldPat_eq (a b c : Int) (n : Nat) (k : Int) (h : kOk k ∧ n ≤ 1048576) : sp_heldPat [.agg [.int .i64 a, .int .u32 b, .int .u32 c, .sl (frsA (marksF n k)) false], .int .i64 k] = some (.int .i64 (k + 2 * n)) := by
  unfold sp_heldPat
  exact pf_eq (ι := (Int) × (Int) × (Int) × (Nat) × (Int)) (α := AV) (a, b, c, n, k) h (by rintro ⟨a', b', c', n', k'⟩ _ e; simp_all [Int.natCast_inj])
end Go.Proofs.YtgophedkejgedaaGreatDoorAi
end

section
/- Contracts: the pattern of opposite graphs. -/
namespace Go.Proofs.YtgophedkejgedaaGreatDoorAi
open Go Go.RowKit
set_option linter.unusedVariables false
set_option linter.unusedSimpArgs false
set_option maxRecDepth 20000

def oppR (n e l : Int) (ps : List Fr) : AV × List (Option (List AV)) :=
  if patOk n e l ps = true then (.tup [.agg [.int .i64 n, .int .u32 (notE e n), .int .u32 (2 ^ n.toNat - 1 - l), .ref 0 2 0 ps.length .full], .int .i64 0], [some (flatA (frsA ps))])
  else (noPat 1, [])
theorem xor_ones {w l : Nat} (h : l < 2 ^ w) : (2 ^ w - 1) ^^^ l = 2 ^ w - 1 - l := by
  have h1 : (BitVec.allOnes w ^^^ BitVec.ofNat w l).toNat = (~~~(BitVec.ofNat w l)).toNat := by rw [BitVec.not_def]
  rw [BitVec.toNat_xor, BitVec.toNat_allOnes, BitVec.toNat_not, BitVec.toNat_ofNat, Nat.mod_eq_of_lt h] at h1
  exact h1
theorem not32 {l : Int} (h0 : 0 ≤ l) (h : l ≤ 4294967295) : IntKind.u32.wrap (((if IntKind.u32.signed = true then -1 else IntKind.u32.max) % 2 ^ IntKind.u32.bits).toNat ^^^ (l % 2 ^ IntKind.u32.bits).toNat : Nat) = 4294967295 - l := by
  obtain ⟨m, rfl⟩ := Int.eq_ofNat_of_zero_le h0
  have e : ((if IntKind.u32.signed = true then -1 else IntKind.u32.max) % 2 ^ IntKind.u32.bits).toNat ^^^ ((m : Int) % 2 ^ IntKind.u32.bits).toNat = (2 ^ 32 - 1) ^^^ m := by
    have e2 : ((m : Int) % 2 ^ IntKind.u32.bits).toNat = m := by
      rw [Int.emod_eq_of_lt (by omega) (by simp only [IntKind.bits]; omega)]
      simp
    rw [e2]
    rfl
  rw [e, xor_ones (by omega)]
  exact (wrap32 (by omega) (by omega)).trans (by omega)
theorem mask32 {l c : Int} {w : Nat} (hw : w ≤ 4) (hc : c = 2 ^ w - 1) (h0 : 0 ≤ l) (h : l < 2 ^ w) : IntKind.u32.wrap (((4294967295 - l) % 2 ^ IntKind.u32.bits).toNat &&& (c % 2 ^ IntKind.u32.bits).toNat : Nat) = 2 ^ w - 1 - l := by
  obtain ⟨m, rfl⟩ := Int.eq_ofNat_of_zero_le h0
  subst hc
  have h5 : w = 0 ∨ w = 1 ∨ w = 2 ∨ w = 3 ∨ w = 4 := by omega
  have e : ((4294967295 - (m : Int)) % 2 ^ IntKind.u32.bits).toNat = 4294967295 - m := by
    have : m < 16 := by rcases h5 with rfl | rfl | rfl | rfl | rfl <;> omega
    rw [Int.emod_eq_of_lt (by omega) (by simp only [IntKind.bits]; omega)]
    omega
  rw [e]
  have key : ∀ w : Nat, w ≤ 4 → ∀ m : Nat, m < 2 ^ w → (4294967295 - m) &&& (2 ^ w - 1) = 2 ^ w - 1 - m := by decide
  have hk := key w hw m (by have : ((2 ^ w : Nat) : Int) = 2 ^ w := by simp
                            omega)
  have e2 : (((2 : Int) ^ w - 1) % 2 ^ IntKind.u32.bits).toNat = 2 ^ w - 1 := by rcases h5 with rfl | rfl | rfl | rfl | rfl <;> rfl
  rw [e2, hk]
  rcases h5 with rfl | rfl | rfl | rfl | rfl <;> exact (wrap32 (by omega) (by omega)).trans (by omega)
theorem xorL {l c : Int} {w : Nat} (hw : w ≤ 4) (hc : c = 2 ^ w - 1) (h0 : 0 ≤ l) (h : l < 2 ^ w) : IntKind.u32.wrap ((c % 2 ^ IntKind.u32.bits).toNat ^^^ (l % 2 ^ IntKind.u32.bits).toNat : Nat) = 2 ^ w - 1 - l := by
  obtain ⟨m, rfl⟩ := Int.eq_ofNat_of_zero_le h0
  subst hc
  have h5 : w = 0 ∨ w = 1 ∨ w = 2 ∨ w = 3 ∨ w = 4 := by omega
  have hm : m < 2 ^ w := by have : ((2 ^ w : Nat) : Int) = 2 ^ w := by simp
                            omega
  have e : ((m : Int) % 2 ^ IntKind.u32.bits).toNat = m := by
    have : m < 16 := by rcases h5 with rfl | rfl | rfl | rfl | rfl <;> omega
    rw [Int.emod_eq_of_lt (by omega) (by simp only [IntKind.bits]; omega)]
    simp
  have e2 : (((2 : Int) ^ w - 1) % 2 ^ IntKind.u32.bits).toNat = 2 ^ w - 1 := by rcases h5 with rfl | rfl | rfl | rfl | rfl <;> rfl
  rw [e, e2, xor_ones hm]
  rcases h5 with rfl | rfl | rfl | rfl | rfl <;> exact (wrap32 (by omega) (by omega)).trans (by omega)
theorem patOk_spec {n e l : Int} {ps : List Fr} (h : patOk n e l ps = true) : graphOk n e = true ∧ (1 ≤ n ∧ n ≤ 4) ∧ l < 2 ^ n.toNat ∧ (ps.length : Int) = n ∧ allOk ps = true := by
  simp only [patOk, Bool.and_eq_true, decide_eq_true_eq] at h
  obtain ⟨⟨⟨⟨⟨h1, h2⟩, h3⟩, h4⟩, _⟩, _⟩ := h
  obtain ⟨h5, h6⟩ := of_decide_eq_true h2
  exact ⟨h1, h5, h6, h3, h4⟩
noncomputable def sp_oppP : List AV → Option (AV × List (Option (List AV))) := pf (ι := (Int) × (Int) × (Int) × (List Fr)) (α := AV × List (Option (List AV))) (fun ⟨n, e, l, ps⟩ => (0 ≤ e ∧ e ≤ 4294967295) ∧ (0 ≤ l ∧ l ≤ 4294967295) ∧ ps.length ≤ maxLen) (fun ⟨n, e, l, ps⟩ => [.agg [.int .i64 n, .int .u32 e, .int .u32 l, .sl (frsA ps) false]]) (fun ⟨n, e, l, ps⟩ => oppR n e l ps)
theorem sp_oppP_eq (n e l : Int) (ps : List Fr) (h : (0 ≤ e ∧ e ≤ 4294967295) ∧ (0 ≤ l ∧ l ≤ 4294967295) ∧ ps.length ≤ maxLen) : sp_oppP [.agg [.int .i64 n, .int .u32 e, .int .u32 l, .sl (frsA ps) false]] = some (oppR n e l ps) := by
  unfold sp_oppP
  exact pf_eq (ι := (Int) × (Int) × (Int) × (List Fr)) (α := AV × List (Option (List AV))) (n, e, l, ps) h (by rintro ⟨n', e', l', ps'⟩ _ e; simp_all [Int.natCast_inj])
end Go.Proofs.YtgophedkejgedaaGreatDoorAi
end

section
/- Contracts: lists of numbers; graphs with so many vertices in each part. -/
namespace Go.Proofs.YtgophedkejgedaaGreatDoorAi
open Go Go.RowKit
set_option linter.unusedVariables false
set_option linter.unusedSimpArgs false
set_option maxRecDepth 20000

/-! ### searching in lists -/
def idxF {α : Type} (f : α → Bool) : List α → Nat → Int
  | [], _ => -1
  | x :: r, i => if f x = true then i else idxF f r (i + 1)
theorem idxF_ge {α : Type} (f : α → Bool) : ∀ (l : List α) (i : Nat), decide (0 ≤ idxF f l i) = l.any f
  | [], _ => rfl
  | x :: r, i => by
    rw [idxF, List.any_cons]
    cases hx : f x with
    | true => simp
    | false => simp only [Bool.false_eq_true, if_false, Bool.false_or]; exact idxF_ge f r (i + 1)
theorem hsub_all {os : List (Option (List AV))} (ho : ClosedH os) : hsub (fun b => b) os.length ⟨os⟩ 0 os := by
  have := hsub_pre (r := []) (m := os.length) ho (Nat.le_refl _)
  simpa using this
theorem Sub.pre0 {os : List (Option (List AV))} {t : Nat → AV} {l : List (Nat × AV)} (ho : ClosedH os) (ht : ∀ p ∈ l, p.2.lt os.length = true ∧ t p.1 = p.2) : Sub os.length ⟨t, ⟨os⟩⟩ ⟨tl l, ⟨os⟩⟩ := Sub.keep (Nat.le_refl _) (hsub_all ho) ht
noncomputable def yesI (sp : List AV → AHeap → Option (AV × AHeap)) (caps : List AV) (A : AHeap) (x : Int) : Bool := yesOf sp ([.int .i64 x] ++ caps) A
open Classical in
noncomputable def spIdxI (g : FuncId) (sp : List AV → AHeap → Option (AV × AHeap)) : List AV → AHeap → Option (AV × AHeap)
  | [.sl xs false, .fn g' caps], A => if h : g' = g ∧ ∃ l : List Int, xs = insA l ∧ l.length ≤ maxLen ∧ ∀ x ∈ l, sp ([.int .i64 x] ++ caps) A = some (.bool (yesI sp caps A x), A)
      then some (.int .i64 (idxF (yesI sp caps A) h.2.choose 0), A) else none
  | _, _ => none
theorem spIdxI_eq {g : FuncId} {sp : List AV → AHeap → Option (AV × AHeap)} (f : Int → Bool) {l : List Int} {caps : List AV} {A : AHeap} (hl : l.length ≤ maxLen) (h : ∀ x ∈ l, sp ([.int .i64 x] ++ caps) A = some (.bool (f x), A)) :
    spIdxI g sp [.sl (insA l) false, .fn g caps] A = some (.int .i64 (idxF f l 0), A) := by
  have hy : ∀ x ∈ l, yesI sp caps A x = f x := by
    intro x hx
    unfold yesI yesOf
    rw [h x hx]
  have hc : g = g ∧ ∃ k : List Int, insA l = insA k ∧ k.length ≤ maxLen ∧ ∀ x ∈ k, sp ([.int .i64 x] ++ caps) A = some (.bool (yesI sp caps A x), A) := ⟨rfl, l, rfl, hl, fun x hx => by rw [hy x hx]; exact h x hx⟩
  unfold spIdxI
  dsimp only
  rw [dif_pos hc]
  have e : hc.2.choose = l := (insA_inj.1 hc.2.choose_spec.1).symm
  rw [e]
  have : ∀ (l : List Int) (i : Nat), (∀ x ∈ l, yesI sp caps A x = f x) → idxF (yesI sp caps A) l i = idxF f l i := by
    intro l
    induction l with
    | nil => intro _ _; rfl
    | cons x l ih => intro i h; rw [idxF, idxF, h x (List.mem_cons_self ..), ih _ fun y hy => h y (List.mem_cons_of_mem _ hy)]
  rw [this l 0 hy]
open Classical in
noncomputable def spAnyI (g : FuncId) (sp : List AV → AHeap → Option (AV × AHeap)) : List AV → AHeap → Option (AV × AHeap)
  | [.sl xs false, .fn g' caps], A => if h : g' = g ∧ looseL caps = caps ∧ ∃ l : List Int, xs = insA l ∧ l.length ≤ maxLen ∧ ∀ x ∈ l, sp ([.int .i64 x] ++ caps) A = some (.bool (yesI sp caps A x), A)
      then some (.bool (h.2.2.choose.any (yesI sp caps A)), A) else none
  | _, _ => none
theorem spAnyI_eq {g : FuncId} {sp : List AV → AHeap → Option (AV × AHeap)} (f : Int → Bool) {l : List Int} {caps : List AV} {A : AHeap} (hl : l.length ≤ maxLen) (hcl : looseL caps = caps) (h : ∀ x ∈ l, sp ([.int .i64 x] ++ caps) A = some (.bool (f x), A)) :
    spAnyI g sp [.sl (insA l) false, .fn g caps] A = some (.bool (l.any f), A) := by
  have hy : ∀ x ∈ l, yesI sp caps A x = f x := by
    intro x hx
    unfold yesI yesOf
    rw [h x hx]
  have hc : g = g ∧ looseL caps = caps ∧ ∃ k : List Int, insA l = insA k ∧ k.length ≤ maxLen ∧ ∀ x ∈ k, sp ([.int .i64 x] ++ caps) A = some (.bool (yesI sp caps A x), A) := ⟨rfl, hcl, l, rfl, hl, fun x hx => by rw [hy x hx]; exact h x hx⟩
  unfold spAnyI
  dsimp only
  rw [dif_pos hc]
  have e : hc.2.2.choose = l := (insA_inj.1 hc.2.2.choose_spec.1).symm
  rw [e]
  have : l.any (yesI sp caps A) = l.any f := by
    clear e hc h hl
    induction l with
    | nil => rfl
    | cons x l ih => rw [List.any_cons, List.any_cons, hy x (List.mem_cons_self ..), ih fun y hm => hy y (List.mem_cons_of_mem _ hm)]
  rw [this]
end Go.Proofs.YtgophedkejgedaaGreatDoorAi
end

section
/- Contracts: graphs with so many vertices in each part. -/
namespace Go.Proofs.YtgophedkejgedaaGreatDoorAi
open Go Go.RowKit
set_option linter.unusedVariables false
set_option linter.unusedSimpArgs false
set_option maxRecDepth 20000

theorem flat_in (L : List Int) : flatA (mapA inA L) = L.map inA := by rw [List.map_eq_flatMap]; simp [flatA, mapA, List.flatMap_map]
@[simp] theorem flat_in_get (L : List Int) (i : Nat) (h : i < (flatA (mapA inA L)).length) : (flatA (mapA inA L))[i] = inA (L[i]'(by simpa using h)) := by simp [flat_in]
@[simp] theorem flat_in_inj {L K : List Int} : flatA (mapA inA L) = flatA (mapA inA K) ↔ L = K := by
  constructor
  · intro h
    rw [flat_in, flat_in] at h
    exact mapA_inj inA_inj h
  · intro h; rw [h]
theorem news_in1 (n : Nat) (p : Int) : List.replicate n (AV.int .i64 p) = flatA (mapA inA (List.replicate n p)) := by rw [flat_in]; simp
theorem wrapI0 : IntKind.i64.wrap 0 = 0 := rfl
theorem reps_in (n : Nat) (p : Int) : rep n [.int .i64 p] = flatA (insA (List.replicate n p)) := news_in n p
noncomputable def sp_repeatI : List AV → List AV → Option (AV × List (Option (List AV))) := pb (pf (ι := (Int) × (Int)) (α := AV × List (Option (List AV))) (fun ⟨p, n⟩ => 0 ≤ n ∧ n ≤ 5) (fun i => .agg ((fun ⟨p, n⟩ => [.int .i64 p] : (Int) × (Int) → List AV) i) :: (fun ⟨p, n⟩ => [.ref 0 1 0 1 .tight, .int .i64 n] : (Int) × (Int) → List AV) i) (fun ⟨p, n⟩ => (.ref 1 1 0 n.toNat .tight, [some [.int .i64 p], some (flatA (insA (List.replicate n.toNat p)))])))
theorem sp_repeatI_eq (p n : Int) (h : 0 ≤ n ∧ n ≤ 5) : sp_repeatI [.int .i64 p] [.ref 0 1 0 1 .tight, .int .i64 n] = some (.ref 1 1 0 n.toNat .tight, [some [.int .i64 p], some (flatA (insA (List.replicate n.toNat p)))]) := by
  unfold sp_repeatI pb
  exact pf_eq (ι := (Int) × (Int)) (α := AV × List (Option (List AV))) (p, n) h (by rintro ⟨p', n'⟩ _ e; simp_all [Int.natCast_inj])
def sizeI (n : Int) : Bool := decide (0 ≤ n) && decide (n ≤ 5)
noncomputable def sp_badSize : List AV → Option (AV) := pf (ι := (Int)) (α := AV) (fun n => True) (fun n => [.int .i64 n]) (fun n => .bool (!sizeI n))
theorem sp_badSize_eq (n : Int) : sp_badSize [.int .i64 n] = some (.bool (!sizeI n)) := by
  unfold sp_badSize
  exact pf_eq (ι := (Int)) (α := AV) n trivial (by rintro n' _ e; simp_all [Int.natCast_inj])
attribute [simp] sp_badSize_eq
def atI (L : List Int) (i : Nat) : Int := L.getD i 0
def allPart (L : List Int) : Prop := ∀ x ∈ L, 0 ≤ x ∧ x < 5
theorem allPart.at {L : List Int} (h : allPart L) {i : Nat} (hi : i < L.length) : 0 ≤ atI L i ∧ atI L i < 5 := by
  have : atI L i = L[i] := by simp [atI, hi]
  rw [this]; exact h _ (List.getElem_mem hi)
theorem atI_get {L : List Int} {i : Nat} (hi : i < L.length) : L[i] = atI L i := by simp [atI, hi]
noncomputable def sp_blow2 : List (Option (List AV)) → List AV → Option (AV × List (Option (List AV))) := pv (pf (ι := (Int) × (Int) × (Int) × (List Fr) × (List Int) × (Int) × (Int)) (α := AV × List (Option (List AV))) (fun ⟨n, e, l, ps, L, i, j⟩ => ((0 ≤ e ∧ e ≤ 4294967295) ∧ (0 ≤ l ∧ l ≤ 4294967295)) ∧ allPart L ∧ (0 ≤ i ∧ i < L.length) ∧ (0 ≤ j ∧ j < L.length)) (fun i => .agg (((fun ⟨n, e, l, ps, L, i, j⟩ => [some [.int .i64 n, .int .u32 e, .int .u32 l, .sl (frsA ps) false], some [.ref 2 1 0 L.length .full], some (flatA (insA L))] : (Int) × (Int) × (Int) × (List Fr) × (List Int) × (Int) × (Int) → List (Option (List AV))) i).map enO) :: (fun ⟨n, e, l, ps, L, i, j⟩ => [.int .i64 i, .int .i64 j, .ptr 0 0, .ptr 1 0] : (Int) × (Int) × (Int) × (List Fr) × (List Int) × (Int) × (Int) → List AV) i) (fun ⟨n, e, l, ps, L, i, j⟩ => (.bool (joinB e l (atI L i.toNat) (atI L j.toNat)), [some [.int .i64 n, .int .u32 e, .int .u32 l, .sl (frsA ps) false], some [.ref 2 1 0 L.length .full], some (flatA (insA L))])))
theorem sp_blow2_eq (n e l : Int) (ps : List Fr) (L : List Int) (i j : Int) (h : ((0 ≤ e ∧ e ≤ 4294967295) ∧ (0 ≤ l ∧ l ≤ 4294967295)) ∧ allPart L ∧ (0 ≤ i ∧ i < L.length) ∧ (0 ≤ j ∧ j < L.length)) : sp_blow2 [some [.int .i64 n, .int .u32 e, .int .u32 l, .sl (frsA ps) false], some [.ref 2 1 0 L.length .full], some (flatA (insA L))] [.int .i64 i, .int .i64 j, .ptr 0 0, .ptr 1 0] = some (.bool (joinB e l (atI L i.toNat) (atI L j.toNat)), [some [.int .i64 n, .int .u32 e, .int .u32 l, .sl (frsA ps) false], some [.ref 2 1 0 L.length .full], some (flatA (insA L))]) := by
  unfold sp_blow2 pv
  exact pf_eq (ι := (Int) × (Int) × (Int) × (List Fr) × (List Int) × (Int) × (Int)) (α := AV × List (Option (List AV))) (n, e, l, ps, L, i, j) h (by rintro ⟨n', e', l', ps', L', i', j'⟩ _ e; simp_all [enO, Int.natCast_inj])
/-- Each part so often. -/
def partsN : Nat → List Int → List Int
  | _, [] => []
  | i, n :: r => List.replicate n.toNat (i : Int) ++ partsN (i + 1) r
theorem partsN_snoc : ∀ (l : List Int) (i : Nat) (n : Int), partsN i (l ++ [n]) = partsN i l ++ List.replicate n.toNat ((i + l.length : Nat) : Int)
  | [], i, n => by simp [partsN]
  | x :: l, i, n => by
    rw [List.cons_append, partsN, partsN, partsN_snoc l (i + 1) n, List.append_assoc, List.length_cons, show i + 1 + l.length = i + (l.length + 1) by omega]
theorem partsN_part : ∀ (l : List Int) (i : Nat), i + l.length ≤ 5 → allPart (partsN i l)
  | [], i, h => fun x hx => by cases hx
  | n :: l, i, h => fun x hx => by
    rw [partsN, List.mem_append] at hx
    rw [List.length_cons] at h
    rcases hx with hx | hx
    · have := List.eq_of_mem_replicate hx
      omega
    · exact partsN_part l (i + 1) (by omega) x hx
theorem partsN_len : ∀ (l : List Int) (i : Nat), (∀ x ∈ l, sizeI x = true) → (partsN i l).length ≤ 5 * l.length
  | [], i, h => by simp [partsN]
  | n :: l, i, h => by
    have h1 := partsN_len l (i + 1) fun x hx => h x (List.mem_cons_of_mem _ hx)
    have h2 := h n (List.mem_cons_self ..)
    simp only [sizeI, Bool.and_eq_true, decide_eq_true_eq] at h2
    rw [partsN, List.length_append, List.length_replicate, List.length_cons]
    omega
def sizesOk (l : List Int) : Bool := l.all sizeI
theorem any_sizes (l : List Int) : (l.any fun x => !sizeI x) = !(sizesOk l) := by
  unfold sizesOk
  rw [List.not_all_eq_any_not]
def blowE (e l : Int) (L : List Int) : Nat := madeE (fun i j => joinB e l (atI L i) (atI L j)) L.length
/-- A graph with so many vertices in each part, with a code. -/
def blowR (n e l : Int) (ps : List Fr) (zs : List Int) : AV :=
  if patOk n e l ps = false then .tup [.agg [.int .i64 0, .int .u32 0], .int .i64 1]
  else if (zs.length = ps.length ∧ sizesOk zs = true) ∧ (partsN 0 zs).length ≤ 5 then .tup [.agg [.int .i64 (partsN 0 zs).length, .int .u32 (blowE e l (partsN 0 zs))], .int .i64 0]
  else .tup [.agg [.int .i64 0, .int .u32 0], .int .i64 2]
@[simp] theorem blowR_lt (n e l : Int) (ps : List Fr) (zs : List Int) (k : Nat) : (blowR n e l ps zs).lt k = true := by unfold blowR; split; rfl; split <;> rfl
/-- A list that grows in a cell. -/
def cellL (b : Nat) (L : List Int) : AV := if L = [] then .sl [] true else .ref b 1 0 L.length .full
def objL (L : List Int) : List (Option (List AV)) := if L = [] then [] else [some (flatA (insA L))]
theorem cellL_nil (b : Nat) : cellL b [] = .sl [] true := rfl
theorem objL_nil : objL [] = [] := rfl
theorem cellL_cons {b : Nat} {L : List Int} (h : L ≠ []) : cellL b L = .ref b 1 0 L.length .full := if_neg h
theorem objL_cons {L : List Int} (h : L ≠ []) : objL L = [some (flatA (insA L))] := if_neg h
noncomputable def sp_blowP : List AV → Option (AV) := pf (ι := (Int) × (Int) × (Int) × (List Fr) × (List Int)) (α := AV) (fun ⟨n, e, l, ps, zs⟩ => ((0 ≤ e ∧ e ≤ 4294967295) ∧ (0 ≤ l ∧ l ≤ 4294967295)) ∧ ps.length ≤ maxLen ∧ zs.length ≤ 1048576) (fun ⟨n, e, l, ps, zs⟩ => [.agg [.int .i64 n, .int .u32 e, .int .u32 l, .sl (frsA ps) false], .sl (insA zs) false]) (fun ⟨n, e, l, ps, zs⟩ => blowR n e l ps zs)
theorem sp_blowP_eq (n e l : Int) (ps : List Fr) (zs : List Int) (h : ((0 ≤ e ∧ e ≤ 4294967295) ∧ (0 ≤ l ∧ l ≤ 4294967295)) ∧ ps.length ≤ maxLen ∧ zs.length ≤ 1048576) : sp_blowP [.agg [.int .i64 n, .int .u32 e, .int .u32 l, .sl (frsA ps) false], .sl (insA zs) false] = some (blowR n e l ps zs) := by
  unfold sp_blowP
  exact pf_eq (ι := (Int) × (Int) × (Int) × (List Fr) × (List Int)) (α := AV) (n, e, l, ps, zs) h (by rintro ⟨n', e', l', ps', zs'⟩ _ e; simp_all [Int.natCast_inj])
end Go.Proofs.YtgophedkejgedaaGreatDoorAi
end

section
/- MADE BY PROGRAM (wip/tools/gen.py): the abstract code of functions. -/
namespace Go.Proofs.YtgophedkejgedaaGreatDoorAi
open Go AC AOp Opd
set_option linter.unusedVariables false
set_option maxRecDepth 100000
def c_slices_Clip_Sint64_int64 : AC := seq (reg [⟨(some 2), mv (c (.sl [] true)), none⟩]) (seq (reg [⟨(some 3), mv (t 0), none⟩, ⟨(some 4), mv (t 0), none⟩, ⟨(some 5), len (t 4), none⟩, ⟨(some 6), mv (t 0), none⟩, ⟨(some 7), len (t 6), none⟩, ⟨(some 8), sli 1 (t 3) none (some (t 5)) (some (t 7)), none⟩, ⟨(some 2), mv (t 8), none⟩]) (ret))
def r_slices_Clip_Sint64_int64 : List ARes := [.tmp 2]
theorem k_slices_Clip_Sint64_int64 : acLin Go.Proofs.Tryz.prog 222 1 (inQ [] []) [] = some (c_slices_Clip_Sint64_int64, r_slices_Clip_Sint64_int64) := by kernel_rfl
def c_slices_IndexFunc_Simpl_Graph_impl_Graph : AC := seq (reg [⟨(some 4), mv (c (.int .i64 0)), none⟩]) (seq (seq (reg [⟨(some 6), mv (t 0), none⟩, ⟨(some 7), len (t 6), none⟩, ⟨(some 8), mv (c (.int .i64 0)), none⟩]) (block 0 (loop (seq (reg [⟨(some 9), bin .lss (t 8) (t 7), none⟩]) (seq (cond (t 9) (skip) (exit 0)) (seq (block 1 (seq (reg [⟨(some 10), mv (t 8), none⟩, ⟨(some 5), mv (t 10), none⟩]) (seq (reg [⟨(some 11), mv (t 1), none⟩, ⟨(some 12), mv (t 0), none⟩, ⟨(some 13), mv (t 5), none⟩, ⟨(some 14), iad 2 (t 12) (t 13), none⟩, ⟨(some 15), ld (t 14) 2 true, none⟩, ⟨(some 16), call (t 11) [t 15], none⟩]) (cond (t 16) (seq (reg [⟨(some 17), mv (t 5), none⟩, ⟨(some 4), mv (t 17), none⟩]) (ret)) (skip))))) (reg [⟨(some 18), bin .add (t 8) (c (.int .i64 1)), none⟩, ⟨(some 8), mv (t 18), none⟩]))))))) (seq (reg [⟨(some 4), mv (c (.int .i64 (-1))), none⟩]) (ret)))
def r_slices_IndexFunc_Simpl_Graph_impl_Graph : List ARes := [.tmp 4]
theorem k_slices_IndexFunc_Simpl_Graph_impl_Graph : acLin Go.Proofs.Tryz.prog 155 2 (inQ [] []) [] = some (c_slices_IndexFunc_Simpl_Graph_impl_Graph, r_slices_IndexFunc_Simpl_Graph_impl_Graph) := by kernel_rfl
def c_slices_ContainsFunc_Simpl_Graph_impl_Graph : AC := seq (reg [⟨(some 4), mv (c (.bool false)), none⟩]) (seq (reg [⟨(some 5), mv (t 0), none⟩, ⟨(some 6), mv (t 1), none⟩, ⟨(some 7), calle (c (.fn 155 [])) [t 5, t 6] [], none⟩, ⟨(some 8), bin .geq (t 7) (c (.int .i64 0)), none⟩, ⟨(some 4), mv (t 8), none⟩]) (ret))
def r_slices_ContainsFunc_Simpl_Graph_impl_Graph : List ARes := [.tmp 4]
theorem k_slices_ContainsFunc_Simpl_Graph_impl_Graph : acLin Go.Proofs.Tryz.prog 116 2 (inQ [] [155]) [] = some (c_slices_ContainsFunc_Simpl_Graph_impl_Graph, r_slices_ContainsFunc_Simpl_Graph_impl_Graph) := by kernel_rfl
def c_impl_forbiddenOk : AC := seq (reg [⟨(some 2), mv (c (.int .i64 0)), none⟩]) (seq (block 0 (seq (reg [⟨(some 4), mv (t 0), none⟩, ⟨(some 5), calle (c (.fn 116 [])) [t 4, c (.fn 117 [])] [], none⟩, ⟨(some 3), mv (t 5), none⟩]) (cond (t 3) (seq (reg [⟨(some 2), mv (c (.int .i64 1)), none⟩]) (ret)) (seq (reg [⟨(some 7), mv (t 0), none⟩, ⟨(some 8), len (t 7), none⟩, ⟨(some 9), bin .gtr (t 8) (c (.int .i64 6)), none⟩, ⟨(some 6), mv (t 9), none⟩]) (cond (t 6) (seq (reg [⟨(some 2), mv (c (.int .i64 3)), none⟩]) (ret)) (skip)))))) (seq (reg [⟨(some 2), mv (c (.int .i64 0)), none⟩]) (ret)))
def r_impl_forbiddenOk : List ARes := [.tmp 2]
theorem k_impl_forbiddenOk : acLin Go.Proofs.Tryz.prog 70 1 (inQ [117] [116]) [] = some (c_impl_forbiddenOk, r_impl_forbiddenOk) := by kernel_rfl
def c_spec_l01Forbidden : AC := seq (reg [⟨(some 2), mv (c (.int .i64 0)), none⟩]) (seq (seq (reg [⟨(some 3), mv (c (.int .i64 0)), none⟩]) (block 0 (loop (seq (seq (reg [⟨(some 4), mv (t 3), none⟩, ⟨(some 5), mv (t 0), none⟩, ⟨(some 6), len (t 5), none⟩, ⟨(some 7), bin .lss (t 4) (t 6), none⟩]) (cond (t 7) (skip) (exit 0))) (seq (block 1 (seq (reg [⟨(some 10), mv (t 0), none⟩, ⟨(some 11), mv (t 3), none⟩, ⟨(some 12), iad 2 (t 10) (t 11), none⟩, ⟨(some 13), ld (t 12) 2 true, none⟩, ⟨(some 14), callq (c (.fn 91 [])) [t 13], none⟩, ⟨(some 15), un .not (t 14), none⟩]) (cond (t 15) (seq (reg [⟨(some 2), mv (c (.int .i64 1)), none⟩]) (ret)) (skip)))) (reg [⟨(some 8), mv (t 3), none⟩, ⟨(some 9), bin .add (t 8) (c (.int .i64 1)), none⟩, ⟨(some 3), mv (t 9), none⟩])))))) (seq (seq (reg [⟨(some 16), mv (t 0), none⟩, ⟨(some 17), len (t 16), none⟩, ⟨(some 18), bin .gtr (t 17) (c (.int .i64 6)), none⟩]) (cond (t 18) (seq (reg [⟨(some 2), mv (c (.int .i64 3)), none⟩]) (ret)) (skip))) (seq (reg [⟨(some 2), mv (c (.int .i64 0)), none⟩]) (ret))))
def r_spec_l01Forbidden : List ARes := [.tmp 2]
theorem k_spec_l01Forbidden : acLin Go.Proofs.Tryz.prog 64 1 (inQ [91] []) [] = some (c_spec_l01Forbidden, r_spec_l01Forbidden) := by kernel_rfl
def c_laws_szGraphS : AC := seq (reg [⟨(some 4), mv (c (.int .i64 0)), none⟩]) (seq (reg [⟨(some 5), mv (t 1), none⟩, ⟨(some 6), mv (t 0), none⟩, ⟨(some 7), len (t 6), none⟩, ⟨(some 8), bin .sub (t 5) (t 7), none⟩, ⟨(some 1), mv (t 8), none⟩]) (seq (seq (reg [⟨(some 9), mv (t 1), none⟩, ⟨(some 10), bin .lss (t 9) (c (.int .i64 0)), none⟩]) (cond (t 10) (seq (reg [⟨(some 4), mv (c (.int .i64 (-1))), none⟩]) (ret)) (skip))) (seq (reg [⟨(some 11), mv (t 1), none⟩, ⟨(some 4), mv (t 11), none⟩]) (ret))))
def r_laws_szGraphS : List ARes := [.tmp 4]
theorem k_laws_szGraphS : acLin Go.Proofs.Tryz.prog 21 2 (inQ [] []) [] = some (c_laws_szGraphS, r_laws_szGraphS) := by kernel_rfl
def c_laws_eqGraphS : AC := seq (reg [⟨(some 4), mv (c (.bool false)), none⟩]) (seq (seq (reg [⟨(some 6), mv (t 0), none⟩, ⟨(some 7), len (t 6), none⟩, ⟨(some 8), mv (t 1), none⟩, ⟨(some 9), len (t 8), none⟩, ⟨(some 10), bin .neq (t 7) (t 9), none⟩]) (cond (t 10) (seq (reg [⟨(some 4), mv (c (.bool false)), none⟩]) (ret)) (skip))) (seq (seq (reg [⟨(some 5), mv (c (.int .i64 0)), none⟩]) (block 0 (loop (seq (seq (reg [⟨(some 11), mv (t 5), none⟩, ⟨(some 12), mv (t 0), none⟩, ⟨(some 13), len (t 12), none⟩, ⟨(some 14), bin .lss (t 11) (t 13), none⟩]) (cond (t 14) (skip) (exit 0))) (seq (block 1 (seq (reg [⟨(some 17), mv (t 0), none⟩, ⟨(some 18), mv (t 5), none⟩, ⟨(some 19), iad 2 (t 17) (t 18), none⟩, ⟨(some 20), ld (t 19) 2 true, none⟩, ⟨(some 21), mv (t 1), none⟩, ⟨(some 22), mv (t 5), none⟩, ⟨(some 23), iad 2 (t 21) (t 22), none⟩, ⟨(some 24), ld (t 23) 2 true, none⟩, ⟨(some 25), callq (c (.fn 59 [])) [t 20, t 24], none⟩, ⟨(some 26), un .not (t 25), none⟩]) (cond (t 26) (seq (reg [⟨(some 4), mv (c (.bool false)), none⟩]) (ret)) (skip)))) (reg [⟨(some 15), mv (t 5), none⟩, ⟨(some 16), bin .add (t 15) (c (.int .i64 1)), none⟩, ⟨(some 5), mv (t 16), none⟩])))))) (seq (reg [⟨(some 4), mv (c (.bool true)), none⟩]) (ret))))
def r_laws_eqGraphS : List ARes := [.tmp 4]
theorem k_laws_eqGraphS : acLin Go.Proofs.Tryz.prog 30 2 (inQ [59] []) [⟨false, none, [], [], none⟩, ⟨false, none, [], [], none⟩, ⟨false, none, [], [], none⟩, ⟨false, none, [], [], none⟩, ⟨false, none, [], [], none⟩, ⟨false, none, [], [], none⟩, ⟨false, none, [], [], none⟩, ⟨false, some [0, 1, 2, 3, 4, 5, 6, 7, 8, 9], [], [], none⟩] = some (c_laws_eqGraphS, r_laws_eqGraphS) := by kernel_rfl
end Go.Proofs.YtgophedkejgedaaGreatDoorAi
end

section
/- MADE BY PROGRAM (wip/tools/gen.py): the abstract code of functions. -/
namespace Go.Proofs.YtgophedkejgedaaGreatDoorAi
open Go AC AOp Opd
set_option linter.unusedVariables false
set_option maxRecDepth 100000

end Go.Proofs.YtgophedkejgedaaGreatDoorAi
end

section
/- Contracts: all maps of vertices to parts, in order. -/
namespace Go.Proofs.YtgophedkejgedaaGreatDoorAi
open Go Go.RowKit
set_option linter.unusedVariables false
set_option linter.unusedSimpArgs false
set_option maxRecDepth 20000
variable {P : Program}

/-- A call to which an object is handed that will not change again. -/
theorem T.freeze {f : FuncId} {args args' : List AV} {A : AHeap} {R : AV → AHeap → Prop} {b : Nat} {cs : List AV} (hb : A b = some cs) (hl : args'.length = args.length) (ha : ∀ (i : Nat) x x', args[i]? = some x → args'[i]? = some x' → Fz b cs x x') (h : T P f args' (A.del b) R) : T P f args A R := by
  refine ⟨h.1, fun B w0 σ w vs hG hB hs hr => ?_⟩
  have hsh := Shift.freeze (N := A.n) (s := ⟨fun i => (args[i]?).getD .any, A⟩) (s' := ⟨fun i => (args'[i]?).getD .any, A.del b⟩) hb (fun i => ?_) (AHeap.del_n ..) (fun i l' e => ?_)
  · have htm : ∀ t, Rep σ ((args[t]?).getD .any) ((vs.toArray).getD t undef) := by
      intro t
      cases ht : args[t]? with
      | none => exact .any _
      | some x =>
        have hlt : t < vs.length := by rw [← hr.1]; exact (List.getElem?_eq_some_iff.1 ht).1
        have := hr.2 t x vs[t] ht (List.getElem?_eq_getElem hlt)
        simpa [ht, hlt] using this
    obtain ⟨σ1, hle, hs1⟩ := hsh B w0 vs.length σ ⟨vs.toArray, []⟩ w ⟨hs, htm, by simp, rfl, hB⟩
    have hle' : σ.Le σ1 := ⟨hle.mem, fun b x e => hle.nm b x (hs.nm b x.1 x.2 e).1 e, hle.base⟩
    refine (h.2 B w0 σ1 w vs hG hB hs1.sim ⟨by rw [hl]; exact hr.1, fun i c v hc hv => ?_⟩).mono fun e w' ⟨r, A', v, σ', e1, e2, e3, e4⟩ => ⟨r, A', v, σ', e1, e2, hle'.trans e3, e4⟩
    have hlt : i < vs.length := (List.getElem?_eq_some_iff.1 hv).1
    have := hs1.tmps i
    simp only [hc, Option.getD_some] at this
    have hv' : vs.toArray.getD i undef = v := by simp [hv]
    rw [hv'] at this
    exact this
  · cases ht : args'[i]? with
    | none => exact .inl (by simp [ht])
    | some x' =>
      have hlt : i < args.length := by rw [← hl]; exact (List.getElem?_eq_some_iff.1 ht).1
      have := ha i args[i] x' (List.getElem?_eq_getElem hlt) ht
      exact .inr (by simpa [ht, hlt] using this)
  · simp only at e
    rw [AHeap.del_at] at e
    split at e
    · cases e
    · rename_i hne
      exact ⟨hne, l', e, rfl, fun j x x' h1 h2 => .inl (by rw [h1] at h2; exact (Option.some.inj h2).symm)⟩

theorem upd_to (g : Nat → Nat) (os os' r : List (Option (List AV))) (hl : os'.length = os.length) (ho : ClosedH os') (hg : ∀ b, b < os.length → g b = b) (hall : ∀ b, b < os.length → (hget os b).isSome = true) : upd (fun b => b) g 0 os os' (os ++ r) = os' ++ r := by
  have key : ∀ (a b b' : List (Option (List AV))), b'.length = b.length → (∀ i, i < b.length → (hget b i).isSome = true) → (∀ i cs, hget b' i = some cs → renL g cs = cs) → upd (fun b => b) g a.length b b' (a ++ b ++ r) = a ++ b' ++ r := by
    intro a b
    induction b generalizing a with
    | nil =>
      intro b' hl _ _
      cases b' with
      | nil => simp [upd]
      | cons _ _ => simp at hl
    | cons o b ih =>
      intro b' hl h h'
      cases b' with
      | nil => simp at hl
      | cons o' b' =>
        rw [upd]
        have ho := h 0 (by simp)
        simp only [hget, if_true] at ho
        rw [if_pos ho]
        have h0 : hset (a ++ o :: b ++ r) a.length (o'.map (renL g)) = (a ++ [o']) ++ b ++ r := by
          rw [List.append_assoc, hset_pre0, List.cons_append, hset, if_pos rfl]
          cases o' with
          | none => simp
          | some c => rw [Option.map_some, h' 0 c (by simp [hget])]; simp
        rw [h0]
        have := ih (a ++ [o']) b' (by simpa using hl) (fun i hi => by have := h (i + 1) (by simp; omega); simpa [hget] using this) (fun i cs hi => h' (i + 1) cs (by simpa [hget] using hi))
        simp only [List.length_append, List.length_cons, List.length_nil] at this
        rw [this]
        simp
  have := key [] os os' hl hall (fun i cs hi => renL_same (n := os.length) hg cs (by rw [← hl]; exact ho i cs hi))
  simpa using this
/-- A call that sees some objects and changes them. -/
theorem T.seesE {f : FuncId} {args : List AV} {os os' : List (Option (List AV))} {v : AV} (h : T P f args ⟨os⟩ fun r A' => r = v ∧ A' = ⟨os'⟩) (ho : ClosedH os) (hl : os'.length = os.length) (ho' : ClosedH os') (hall : ∀ b, b < os.length → (hget os b).isSome = true) (ha : ltL os.length args = true) (hv : v.lt 0 = true) (r : List (Option (List AV))) :
    T P f args ⟨os ++ r⟩ fun x A' => x = v ∧ A' = ⟨os' ++ r⟩ := by
  have := h.embed (A := ⟨os ++ r⟩) (View.pre ho) ha
  rw [renL_id] at this
  refine this.mono ?_
  rintro x A1 ⟨r', A1', ⟨rfl, rfl⟩, rfl, rfl⟩
  refine ⟨ren_low _ _ hv, AHeap.ext' ?_⟩
  exact upd_to _ os os' r hl ho' (fun b hb => by simp [extN, AHeap.n, hb]) hall

/-- Two parts of a pattern that lies somewhere. -/
theorem Sub.preN {N : Nat} {os : List (Option (List AV))} {t : Nat → AV} {l : List (Nat × AV)} (hN : os.length = N) (ho : ClosedH os) (ht : ∀ p ∈ l, p.2.lt N = true ∧ t p.1 = p.2) : Sub N ⟨t, ⟨os⟩⟩ ⟨tl l, ⟨os⟩⟩ := by
  subst hN; exact Sub.pre0 ho ht
theorem Sub.preR {N : Nat} {os r : List (Option (List AV))} {t : Nat → AV} {l : List (Nat × AV)} (hN : os.length = N) (ho : ClosedH os) (ht : ∀ p ∈ l, p.2.lt N = true ∧ t p.1 = p.2) : Sub N ⟨t, ⟨os ++ r⟩⟩ ⟨tl l, ⟨os⟩⟩ := by
  subst hN
  have := Sub.pre (os := os) (r := r) (r' := []) (t := t) (l := l) ho trivial (by simpa using ht)
  simpa using this
noncomputable def sp_clipI : List AV → Option (AV) := pf (ι := (List Int)) (α := AV) (fun k => True) (fun k => [.sl (insA k) false]) (fun k => .sl (insA k) true)
theorem sp_clipI_eq (k : List Int) : sp_clipI [.sl (insA k) false] = some (.sl (insA k) true) := by
  unfold sp_clipI
  exact pf_eq (ι := (List Int)) (α := AV) k trivial (by rintro k' _ e; simp_all [Int.natCast_inj])
attribute [simp] sp_clipI_eq
theorem q_slices_Clip_Sint64_int64 : QP PP 222 sp_clipI := by
  refine QP_pf (fun k h => ?_) fun k h => ?_
  · exact ⟨by first | rfl | simp, by first | rfl | simp⟩
  replace h : True := h
  refine P_code Quiet.nil hmix k_slices_Clip_Sint64_int64 rfl ?_ ?_
  · first | rfl | simp
  show wpc 0 PP _ c_slices_Clip_Sint64_int64 (initSt [.sl (insA k) false] .nil) (endP r_slices_Clip_Sint64_int64 (.sl (insA k) true))
  simp -dsimp -implicitDefEqProofs [c_slices_Clip_Sint64_int64, r_slices_Clip_Sint64_int64]

def fitI (fitB : Int → Int → Bool → Bool) (e l : Int) (now : List Int) (x : Int) : Nat → Bool
  | 0 => true
  | i + 1 => fitI fitB e l now x i && fitB i now.length (joinB e l (atI now i) x)
def fitM (fitB : Int → Int → Bool → Bool) (e l : Int) (now : List Int) (x : Int) : Bool := fitI fitB e l now x now.length

theorem ins_cells (k : List Int) : ∀ x ∈ insA k, x.cells.length = 1 ∧ ltL 0 x.cells = true := by
  intro x hx
  obtain ⟨a, _, rfl⟩ := List.mem_map.1 hx
  exact ⟨rfl, rfl⟩
/-- A list that lies in a new object is handed on. -/
theorem T_ref {f : FuncId} {os os' : List (Option (List AV))} {a1 a2 : List AV} {k : List Int} {c0 : List AV} {v : AV} (h : T PP f (a1 ++ .sl (insA k) false :: a2) ⟨os⟩ fun r A' => r = v ∧ A' = ⟨os'⟩) (ho : ClosedH os) (hl : os'.length = os.length) (ho' : ClosedH os') (hall : ∀ b, b < os.length → (hget os b).isSome = true) (h1 : ltL os.length a1 = true) (h2 : ltL os.length a2 = true) (hv : v.lt 0 = true) (t : Cp) :
    T PP f (a1 ++ .ref (os.length + 1) 1 0 k.length t :: a2) ⟨os ++ [some c0, some (flatA (insA k))]⟩ fun r A' => r = v ∧ A' = ⟨os' ++ [some c0, none]⟩ := by
  have hget1 : (⟨os ++ [some c0, some (flatA (insA k))]⟩ : AHeap) (os.length + 1) = some (flatA (insA k)) := by
    show hget _ _ = _
    rw [hget_pre]; rfl
  refine T.freeze (args' := a1 ++ .sl (insA k) false :: a2) hget1 (by simp) (fun i x x' hx hx' => ?_) ?_
  · by_cases hi : i < a1.length
    · rw [List.getElem?_append_left hi] at hx hx'
      rw [hx] at hx'
      obtain rfl := Option.some.inj hx'
      exact Fz.refl _ _ _
    · rw [List.getElem?_append_right (by omega)] at hx hx'
      cases hj : i - a1.length with
      | zero =>
        rw [hj] at hx hx'
        simp at hx hx'
        subst hx; subst hx'
        refine .inl (.inr (.inr ⟨1, 0, k.length, t, insA k, false, rfl, rfl, fun h => (by cases h), by simp, by simp, ins_cells k, .inl ?_⟩))
        show flatA (insA k) = _
        rw [List.take_of_length_le (by simp)]
        simp
      | succ j =>
        rw [hj] at hx hx'
        simp only [List.getElem?_cons_succ] at hx hx'
        rw [hx] at hx'
        obtain rfl := Option.some.inj hx'
        exact Fz.refl _ _ _
  · have := h.seesE ho hl ho' hall (by simp only [ltL_append, ltL, h1, h2, AV.lt, Bool.and_true, Bool.and_self]) hv [some c0, none]
    have e : (⟨os ++ [some c0, some (flatA (insA k))]⟩ : AHeap).del (os.length + 1) = ⟨os ++ [some c0, none]⟩ := by
      show AHeap.mk (hset _ _ _) = _
      rw [hset_pre]
      rfl
    rw [e]
    exact this
end Go.Proofs.YtgophedkejgedaaGreatDoorAi
end

section
/- MADE BY PROGRAM (wip/tools/gen.py): the abstract code of functions. -/
namespace Go.Proofs.YtgophedkejgedaaGreatDoorAi
open Go AC AOp Opd
set_option linter.unusedVariables false
set_option maxRecDepth 100000
def c_impl_Graph_on_1 : AC := seq (reg [⟨(some 6), mv (c (.bool false)), none⟩]) (seq (reg [⟨(some 7), ld (t 2) 2 true, none⟩, ⟨(some 8), ld (t 3) 1 false, none⟩, ⟨(some 9), mv (t 0), none⟩, ⟨(some 10), iad 1 (t 8) (t 9), none⟩, ⟨(some 11), ld (t 10) 1 false, none⟩, ⟨(some 12), ld (t 3) 1 false, none⟩, ⟨(some 13), mv (t 1), none⟩, ⟨(some 14), iad 1 (t 12) (t 13), none⟩, ⟨(some 15), ld (t 14) 1 false, none⟩, ⟨(some 16), callq (c (.fn 157 [])) [t 7, t 11, t 15], none⟩, ⟨(some 6), mv (t 16), none⟩]) (ret))
def r_impl_Graph_on_1 : List ARes := [.tmp 6]
theorem k_impl_Graph_on_1 : acLin Go.Proofs.Tryz.prog 210 4 (inQ [157] []) [⟨false, none, [], [], none⟩, ⟨false, some [0, 1, 2, 3, 4, 5, 6, 7, 8, 9, 10], [], [], none⟩] = some (c_impl_Graph_on_1, r_impl_Graph_on_1) := by kernel_rfl
def c_impl_Graph_on : AC := seq (reg [⟨(some 2), box 2 (t 0), none⟩, ⟨(some 3), box 1 (t 1), none⟩, ⟨(some 4), alloc [.int .i64 0, .int .u32 0], none⟩]) (seq (reg [⟨(some 5), ld (t 3) 1 false, none⟩, ⟨(some 6), len (t 5), none⟩, ⟨(some 7), mkf 210 [t 2, t 3], none⟩, ⟨(some 8), calle (c (.fn 209 [])) [t 6, t 7] [], none⟩, ⟨none, st (t 4) 2 (t 8), none⟩]) (ret))
def r_impl_Graph_on : List ARes := [.cell 4 2 true]
theorem k_impl_Graph_on : acLin Go.Proofs.Tryz.prog 183 2 (inQ [] [209]) [] = some (c_impl_Graph_on, r_impl_Graph_on) := by kernel_rfl
def c_impl_Graph_orders : AC := seq (reg [⟨(some 3), box 2 (t 0), none⟩, ⟨(some 6), mv (c (.bool false)), none⟩]) (seq (reg [⟨(some 7), fad (t 3) 0, none⟩, ⟨(some 8), ld (t 7) 1 false, none⟩, ⟨(some 9), fad (t 3) 0, none⟩, ⟨(some 10), ld (t 9) 1 false, none⟩, ⟨(some 11), mv (t 1), none⟩, ⟨(some 13), mv (t 2), none⟩, ⟨(some 12), calle (c (.fn 184 [])) [t 11] [(c .nilf, 0, false)], none⟩, ⟨(some 14), call (c (.fn 211 [])) [t 8, t 10, t 12, t 13], none⟩, ⟨(some 6), mv (t 14), none⟩]) (ret))
def r_impl_Graph_orders : List ARes := [.tmp 6]
theorem k_impl_Graph_orders : acLin Go.Proofs.Tryz.prog 185 3 (inQ [] [184]) [⟨false, none, [], [], none⟩, ⟨false, some [0, 1, 2, 3, 4, 6, 5, 7, 8], [(5, [(c .nilf, 0, false)])], [], none⟩] = some (c_impl_Graph_orders, r_impl_Graph_orders) := by kernel_rfl
def c_slices_Index_Sint64_int64 : AC := seq (reg [⟨(some 4), mv (c (.int .i64 0)), none⟩]) (seq (seq (reg [⟨(some 6), mv (t 0), none⟩, ⟨(some 7), len (t 6), none⟩, ⟨(some 8), mv (c (.int .i64 0)), none⟩]) (block 0 (loop (seq (reg [⟨(some 9), bin .lss (t 8) (t 7), none⟩]) (seq (cond (t 9) (skip) (exit 0)) (seq (block 1 (seq (reg [⟨(some 10), mv (t 8), none⟩, ⟨(some 5), mv (t 10), none⟩]) (seq (reg [⟨(some 11), mv (t 1), none⟩, ⟨(some 12), mv (t 0), none⟩, ⟨(some 13), mv (t 5), none⟩, ⟨(some 14), iad 1 (t 12) (t 13), none⟩, ⟨(some 15), ld (t 14) 1 false, none⟩, ⟨(some 16), bin .eql (t 11) (t 15), none⟩]) (cond (t 16) (seq (reg [⟨(some 17), mv (t 5), none⟩, ⟨(some 4), mv (t 17), none⟩]) (ret)) (skip))))) (reg [⟨(some 18), bin .add (t 8) (c (.int .i64 1)), none⟩, ⟨(some 8), mv (t 18), none⟩]))))))) (seq (reg [⟨(some 4), mv (c (.int .i64 (-1))), none⟩]) (ret)))
def r_slices_Index_Sint64_int64 : List ARes := [.tmp 4]
theorem k_slices_Index_Sint64_int64 : acLin Go.Proofs.Tryz.prog 224 2 (inQ [] []) [] = some (c_slices_Index_Sint64_int64, r_slices_Index_Sint64_int64) := by kernel_rfl
def c_slices_Contains_Sint64_int64 : AC := seq (reg [⟨(some 4), mv (c (.bool false)), none⟩]) (seq (reg [⟨(some 5), mv (t 0), none⟩, ⟨(some 6), mv (t 1), none⟩, ⟨(some 7), callq (c (.fn 224 [])) [t 5, t 6], none⟩, ⟨(some 8), bin .geq (t 7) (c (.int .i64 0)), none⟩, ⟨(some 4), mv (t 8), none⟩]) (ret))
def r_slices_Contains_Sint64_int64 : List ARes := [.tmp 4]
theorem k_slices_Contains_Sint64_int64 : acLin Go.Proofs.Tryz.prog 221 2 (inQ [224] []) [] = some (c_slices_Contains_Sint64_int64, r_slices_Contains_Sint64_int64) := by kernel_rfl
def c_spec_l01First : AC := seq (reg [⟨(some 2), mv (c (.sl [] true)), none⟩]) (seq (reg [⟨(some 5), bsl 1 0 [.int .i64 0] [], none⟩, ⟨(some 3), mv (t 5), none⟩]) (seq (seq (reg [⟨(some 4), mv (c (.int .i64 0)), none⟩]) (block 0 (loop (seq (seq (reg [⟨(some 6), mv (t 4), none⟩, ⟨(some 7), mv (t 0), none⟩, ⟨(some 8), bin .lss (t 6) (t 7), none⟩]) (cond (t 8) (skip) (exit 0))) (seq (block 1 (reg [⟨(some 11), mv (t 3), none⟩, ⟨(some 12), mv (t 4), none⟩, ⟨(some 13), bsl 1 1 [.int .i64 0] [(0, t 12)], none⟩, ⟨(some 14), app 1 8 (t 11) (t 13), none⟩, ⟨(some 3), mv (t 14), none⟩])) (reg [⟨(some 9), mv (t 4), none⟩, ⟨(some 10), bin .add (t 9) (c (.int .i64 1)), none⟩, ⟨(some 4), mv (t 10), none⟩])))))) (seq (reg [⟨(some 15), mv (t 3), none⟩, ⟨(some 2), mv (t 15), none⟩]) (ret))))
def r_spec_l01First : List ARes := [.tmp 2]
theorem k_spec_l01First : acLin Go.Proofs.Tryz.prog 135 1 (inQ [] []) [] = some (c_spec_l01First, r_spec_l01First) := by kernel_rfl
def c_spec_l01Among : AC := seq (reg [⟨(some 4), mv (c (.bool false)), none⟩]) (seq (seq (reg [⟨(some 5), mv (c (.int .i64 0)), none⟩]) (block 0 (loop (seq (seq (reg [⟨(some 6), mv (t 5), none⟩, ⟨(some 7), mv (t 0), none⟩, ⟨(some 8), len (t 7), none⟩, ⟨(some 9), bin .lss (t 6) (t 8), none⟩]) (cond (t 9) (skip) (exit 0))) (seq (block 1 (seq (reg [⟨(some 12), mv (t 0), none⟩, ⟨(some 13), mv (t 5), none⟩, ⟨(some 14), iad 1 (t 12) (t 13), none⟩, ⟨(some 15), ld (t 14) 1 false, none⟩, ⟨(some 16), mv (t 1), none⟩, ⟨(some 17), bin .eql (t 15) (t 16), none⟩]) (cond (t 17) (seq (reg [⟨(some 4), mv (c (.bool true)), none⟩]) (ret)) (skip)))) (reg [⟨(some 10), mv (t 5), none⟩, ⟨(some 11), bin .add (t 10) (c (.int .i64 1)), none⟩, ⟨(some 5), mv (t 11), none⟩])))))) (seq (reg [⟨(some 4), mv (c (.bool false)), none⟩]) (ret)))
def r_spec_l01Among : List ARes := [.tmp 4]
theorem k_spec_l01Among : acLin Go.Proofs.Tryz.prog 170 2 (inQ [] []) [] = some (c_spec_l01Among, r_spec_l01Among) := by kernel_rfl
def c_spec_l01Next : AC := seq (reg [⟨(some 4), mv (c (.bool false)), none⟩]) (seq (reg [⟨(some 10), mv (t 0), none⟩, ⟨(some 11), len (t 10), none⟩, ⟨(some 5), mv (t 11), none⟩]) (seq (seq (reg [⟨(some 12), mv (t 5), none⟩, ⟨(some 13), bin .sub (t 12) (c (.int .i64 1)), none⟩, ⟨(some 6), mv (t 13), none⟩]) (block 0 (loop (seq (seq (reg [⟨(some 14), mv (t 6), none⟩, ⟨(some 15), bin .geq (t 14) (c (.int .i64 0)), none⟩]) (cond (t 15) (skip) (exit 0))) (seq (block 1 (seq (reg [⟨(some 18), mv (t 0), none⟩, ⟨(some 19), mv (t 6), none⟩, ⟨(some 20), iad 1 (t 18) (t 19), none⟩, ⟨(some 21), ld (t 20) 1 false, none⟩, ⟨(some 22), bin .add (t 21) (c (.int .i64 1)), none⟩, ⟨(some 7), mv (t 22), none⟩]) (block 2 (loop (seq (seq (reg [⟨(some 23), mv (t 7), none⟩, ⟨(some 24), mv (t 1), none⟩, ⟨(some 25), bin .lss (t 23) (t 24), none⟩]) (cond (t 25) (skip) (exit 2))) (seq (block 3 (seq (reg [⟨(some 28), mv (t 0), none⟩, ⟨(some 29), mv (t 6), none⟩, ⟨(some 30), sli 1 (t 28) none (some (t 29)) none, none⟩, ⟨(some 31), mv (t 7), none⟩, ⟨(some 32), calle (c (.fn 170 [])) [t 30, t 31] [], none⟩, ⟨(some 33), un .not (t 32), none⟩]) (cond (t 33) (seq (reg [⟨(some 34), mv (t 0), none⟩, ⟨(some 35), mv (t 6), none⟩, ⟨(some 36), mv (t 7), none⟩, ⟨(some 37), iad 1 (t 34) (t 35), none⟩, ⟨none, st (t 37) 1 (t 36), none⟩]) (seq (seq (reg [⟨(some 38), mv (t 6), none⟩, ⟨(some 39), bin .add (t 38) (c (.int .i64 1)), none⟩, ⟨(some 8), mv (t 39), none⟩]) (block 4 (loop (seq (seq (reg [⟨(some 40), mv (t 8), none⟩, ⟨(some 41), mv (t 5), none⟩, ⟨(some 42), bin .lss (t 40) (t 41), none⟩]) (cond (t 42) (skip) (exit 4))) (seq (block 5 (seq (reg [⟨(some 9), mv (c (.int .i64 0)), none⟩]) (seq (block 6 (loop (seq (seq (reg [⟨(some 45), mv (t 0), none⟩, ⟨(some 46), mv (t 8), none⟩, ⟨(some 47), sli 1 (t 45) none (some (t 46)) none, none⟩, ⟨(some 48), mv (t 9), none⟩, ⟨(some 49), calle (c (.fn 170 [])) [t 47, t 48] [], none⟩]) (cond (t 49) (skip) (exit 6))) (block 7 (reg [⟨(some 50), mv (t 9), none⟩, ⟨(some 51), bin .add (t 50) (c (.int .i64 1)), none⟩, ⟨(some 9), mv (t 51), none⟩]))))) (reg [⟨(some 52), mv (t 0), none⟩, ⟨(some 53), mv (t 8), none⟩, ⟨(some 54), mv (t 9), none⟩, ⟨(some 55), iad 1 (t 52) (t 53), none⟩, ⟨none, st (t 55) 1 (t 54), none⟩])))) (reg [⟨(some 43), mv (t 8), none⟩, ⟨(some 44), bin .add (t 43) (c (.int .i64 1)), none⟩, ⟨(some 8), mv (t 44), none⟩])))))) (seq (reg [⟨(some 4), mv (c (.bool true)), none⟩]) (ret)))) (skip)))) (reg [⟨(some 26), mv (t 7), none⟩, ⟨(some 27), bin .add (t 26) (c (.int .i64 1)), none⟩, ⟨(some 7), mv (t 27), none⟩]))))))) (reg [⟨(some 16), mv (t 6), none⟩, ⟨(some 17), bin .sub (t 16) (c (.int .i64 1)), none⟩, ⟨(some 6), mv (t 17), none⟩])))))) (seq (reg [⟨(some 4), mv (c (.bool false)), none⟩]) (ret))))
def r_spec_l01Next : List ARes := [.tmp 4]
theorem k_spec_l01Next : acLin Go.Proofs.Tryz.prog 136 2 (inQ [] [170]) [] = some (c_spec_l01Next, r_spec_l01Next) := by kernel_rfl
end Go.Proofs.YtgophedkejgedaaGreatDoorAi
end

section
/- MADE BY PROGRAM (wip/tools/gen.py): the abstract code of functions. -/
namespace Go.Proofs.YtgophedkejgedaaGreatDoorAi
open Go AC AOp Opd
set_option linter.unusedVariables false
set_option maxRecDepth 100000
def c_impl_listed : AC := seq (reg [⟨(some 8), mv (c (.bool false)), none⟩]) (seq (seq (reg [⟨(some 10), mv (t 2), none⟩, ⟨(some 11), len (t 10), none⟩, ⟨(some 12), mv (t 1), none⟩, ⟨(some 13), bin .eql (t 11) (t 12), none⟩]) (cond (t 13) (seq (reg [⟨(some 14), mv (t 3), none⟩, ⟨(some 15), mv (t 2), none⟩, ⟨(some 16), call (t 14) [t 15], none⟩, ⟨(some 8), mv (t 16), none⟩]) (ret)) (skip))) (seq (seq (reg [⟨(some 17), mv (t 0), none⟩, ⟨(some 18), mv (c (.int .i64 0)), none⟩]) (block 0 (loop (seq (reg [⟨(some 19), bin .lss (t 18) (t 17), none⟩]) (seq (cond (t 19) (skip) (exit 0)) (seq (block 1 (seq (reg [⟨(some 20), mv (t 18), none⟩, ⟨(some 9), mv (t 20), none⟩]) (seq (reg [⟨(some 21), mv (t 2), none⟩, ⟨(some 22), mv (t 9), none⟩, ⟨(some 23), callq (c (.fn 221 [])) [t 21, t 22], none⟩, ⟨(some 24), un .not (t 23), none⟩, ⟨(some 25), mv (t 24), none⟩, ⟨(some 26), mv (t 0), some (25, true)⟩, ⟨(some 27), mv (t 1), some (25, true)⟩, ⟨(some 28), mv (t 2), some (25, true)⟩, ⟨(some 29), callq (c (.fn 222 [])) [t 28], some (25, true)⟩, ⟨(some 30), mv (t 9), some (25, true)⟩, ⟨(some 31), bsl 1 1 [.int .i64 0] [(0, t 30)], some (25, true)⟩, ⟨(some 32), app 1 8 (t 29) (t 31), some (25, true)⟩, ⟨(some 33), mv (t 3), some (25, true)⟩, ⟨(some 34), call (c (.fn 211 [])) [t 26, t 27, t 32, t 33], some (25, true)⟩, ⟨(some 35), pick (t 25) (t 34) (c (.bool false)), none⟩]) (cond (t 35) (seq (reg [⟨(some 8), mv (c (.bool true)), none⟩]) (ret)) (skip))))) (reg [⟨(some 36), bin .add (t 18) (c (.int .i64 1)), none⟩, ⟨(some 18), mv (t 36), none⟩]))))))) (seq (reg [⟨(some 8), mv (c (.bool false)), none⟩]) (ret))))
def r_impl_listed : List ARes := [.tmp 8]
theorem k_impl_listed : acLin Go.Proofs.Tryz.prog 211 4 (inQ [221, 222] []) [] = some (c_impl_listed, r_impl_listed) := by kernel_rfl
end Go.Proofs.YtgophedkejgedaaGreatDoorAi
end

section
/- MADE BY PROGRAM (wip/tools/gen.py): the abstract code of functions. -/
namespace Go.Proofs.YtgophedkejgedaaGreatDoorAi
open Go AC AOp Opd
set_option linter.unusedVariables false
set_option maxRecDepth 100000
def c_impl_first : AC := seq (reg [⟨(some 2), mv (c (.sl [] true)), none⟩]) (seq (reg [⟨(some 5), bsl 1 0 [.int .i64 0] [], none⟩, ⟨(some 3), mv (t 5), none⟩]) (seq (seq (reg [⟨(some 6), mv (t 0), none⟩, ⟨(some 7), mv (c (.int .i64 0)), none⟩]) (block 0 (loop (seq (reg [⟨(some 8), bin .lss (t 7) (t 6), none⟩]) (seq (cond (t 8) (skip) (exit 0)) (seq (block 1 (seq (reg [⟨(some 9), mv (t 7), none⟩, ⟨(some 4), mv (t 9), none⟩]) (reg [⟨(some 10), mv (t 3), none⟩, ⟨(some 11), mv (t 4), none⟩, ⟨(some 12), bsl 1 1 [.int .i64 0] [(0, t 11)], none⟩, ⟨(some 13), app 1 8 (t 10) (t 12), none⟩, ⟨(some 3), mv (t 13), none⟩]))) (reg [⟨(some 14), bin .add (t 7) (c (.int .i64 1)), none⟩, ⟨(some 7), mv (t 14), none⟩]))))))) (seq (reg [⟨(some 15), mv (t 3), none⟩, ⟨(some 2), mv (t 15), none⟩]) (ret))))
def r_impl_first : List ARes := [.tmp 2]
theorem k_impl_first : acLin Go.Proofs.Tryz.prog 184 1 (inQ [] []) [] = some (c_impl_first, r_impl_first) := by kernel_rfl
def c_spec_l01On : AC := seq (reg [⟨(some 2), box 2 (t 0), none⟩, ⟨(some 4), alloc [.int .i64 0, .int .u32 0], none⟩]) (seq (reg [⟨(some 8), mv (t 1), none⟩, ⟨(some 9), len (t 8), none⟩, ⟨(some 10), bld [.int .i64 0, .int .u32 0] [(0, 1, t 9)], none⟩, ⟨(some 5), alloc [.int .i64 0, .int .u32 0], none⟩, ⟨none, st (t 5) 2 (t 10), none⟩]) (seq (seq (reg [⟨(some 6), mv (c (.int .i64 1)), none⟩]) (block 0 (loop (seq (seq (reg [⟨(some 11), mv (t 6), none⟩, ⟨(some 12), fad (t 5) 0, none⟩, ⟨(some 13), ld (t 12) 1 false, none⟩, ⟨(some 14), bin .lss (t 11) (t 13), none⟩]) (cond (t 14) (skip) (exit 0))) (seq (block 1 (seq (reg [⟨(some 7), mv (c (.int .i64 0)), none⟩]) (block 2 (loop (seq (seq (reg [⟨(some 17), mv (t 7), none⟩, ⟨(some 18), mv (t 6), none⟩, ⟨(some 19), bin .lss (t 17) (t 18), none⟩]) (cond (t 19) (skip) (exit 2))) (seq (block 3 (seq (reg [⟨(some 22), ld (t 2) 2 true, none⟩, ⟨(some 23), mv (t 1), none⟩, ⟨(some 24), mv (t 7), none⟩, ⟨(some 25), iad 1 (t 23) (t 24), none⟩, ⟨(some 26), ld (t 25) 1 false, none⟩, ⟨(some 27), mv (t 1), none⟩, ⟨(some 28), mv (t 6), none⟩, ⟨(some 29), iad 1 (t 27) (t 28), none⟩, ⟨(some 30), ld (t 29) 1 false, none⟩, ⟨(some 31), callq (c (.fn 153 [])) [t 22, t 26, t 30], none⟩]) (cond (t 31) (reg [⟨(some 32), fad (t 5) 1, none⟩, ⟨(some 33), ld (t 32) 1 false, none⟩, ⟨(some 34), mv (t 7), none⟩, ⟨(some 35), mv (t 6), none⟩, ⟨(some 36), callq (c (.fn 89 [])) [t 34, t 35], none⟩, ⟨(some 37), bin .or (t 33) (t 36), none⟩, ⟨(some 38), fad (t 5) 1, none⟩, ⟨none, st (t 38) 1 (t 37), none⟩]) (skip)))) (reg [⟨(some 20), mv (t 7), none⟩, ⟨(some 21), bin .add (t 20) (c (.int .i64 1)), none⟩, ⟨(some 7), mv (t 21), none⟩]))))))) (reg [⟨(some 15), mv (t 6), none⟩, ⟨(some 16), bin .add (t 15) (c (.int .i64 1)), none⟩, ⟨(some 6), mv (t 16), none⟩])))))) (seq (reg [⟨(some 39), ld (t 5) 2 true, none⟩, ⟨none, st (t 4) 2 (t 39), none⟩]) (ret))))
def r_spec_l01On : List ARes := [.cell 4 2 true]
theorem k_spec_l01On : acLin Go.Proofs.Tryz.prog 137 2 (inQ [89, 153] []) [⟨false, none, [], [], none⟩, ⟨false, none, [], [], none⟩, ⟨false, none, [], [], none⟩, ⟨false, none, [], [], none⟩, ⟨false, none, [], [], none⟩, ⟨false, none, [], [], none⟩, ⟨false, none, [], [], none⟩, ⟨false, none, [], [], none⟩, ⟨false, some [0, 1, 2, 3, 4, 5, 6, 7, 8, 9], [], [], none⟩, ⟨false, some [0, 1, 2, 3, 4, 5, 6, 7], [], [], none⟩] = some (c_spec_l01On, r_spec_l01On) := by kernel_rfl
end Go.Proofs.YtgophedkejgedaaGreatDoorAi
end

section
/- Contracts: all lists of different numbers, in order; orders of vertices. -/
namespace Go.Proofs.YtgophedkejgedaaGreatDoorAi
open Go Go.RowKit
set_option linter.unusedVariables false
set_option linter.unusedSimpArgs false
set_option maxRecDepth 20000

noncomputable def sp_indexI : List AV → Option (AV) := pf (ι := (List Int) × (Int)) (α := AV) (fun ⟨k, v⟩ => k.length ≤ 1048576) (fun ⟨k, v⟩ => [.sl (insA k) false, .int .i64 v]) (fun ⟨k, v⟩ => .int .i64 (idxF (fun x => v == x) k 0))
theorem sp_indexI_eq (k : List Int) (v : Int) (h : k.length ≤ 1048576) : sp_indexI [.sl (insA k) false, .int .i64 v] = some (.int .i64 (idxF (fun x => v == x) k 0)) := by
  unfold sp_indexI
  exact pf_eq (ι := (List Int) × (Int)) (α := AV) (k, v) h (by rintro ⟨k', v'⟩ _ e; simp_all [Int.natCast_inj])
theorem q_slices_Index_Sint64_int64 : QP PP 224 sp_indexI := by
  refine QP_pf (fun i h => ?_) fun i h => ?_
  · obtain ⟨k, v⟩ := i; exact ⟨by first | rfl | simp, by first | rfl | simp⟩
  obtain ⟨k, v⟩ := i
  replace h : k.length ≤ 1048576 := h
  refine P_code Quiet.nil hmix k_slices_Index_Sint64_int64 rfl ?_ ?_
  · first | rfl | simp
  show wpc 0 PP _ c_slices_Index_Sint64_int64 (initSt [.sl (insA k) false, .int .i64 v] .nil) (endP r_slices_Index_Sint64_int64 (.int .i64 (idxF (fun x => v == x) k 0)))
  simp -dsimp -implicitDefEqProofs [c_slices_Index_Sint64_int64, r_slices_Index_Sint64_int64]
  refine wpLoop_st (fun (i : Nat) => ⟨tl [(0, .sl (insA k) false), (1, .int .i64 v), (7, .int .i64 k.length), (8, .int .i64 i)], ⟨[]⟩⟩) (fun i => i ≤ k.length ∧ idxF (fun x => v == x) (k.drop i) i = idxF (fun x => v == x) k 0) (fun i => k.length - i) 0 ⟨by omega, rfl⟩ (Sub.keep (by simp) (by simp [hsub]) (by simp)) ?_
  rintro i ⟨hi, hx⟩
  simp -dsimp -implicitDefEqProofs
  refine brW_of (fun h => ?_) (fun h => ?_) <;> simp only [decide_eq_true_eq, decide_eq_false_iff_not] at h
  · have hi' : i < k.length := by omega
    have hw := wrapNat (i := i) (by omega)
    rw [drop_cons hi', idxF] at hx
    by_cases hv : v = k[i]
    · have hv' : (v == k[i]) = true := by simp [hv]
      rw [hv', if_pos rfl] at hx
      simp -dsimp -implicitDefEqProofs [hi', hw, hv', ← hx]
    · have hv' : (v == k[i]) = false := by simp [hv]
      rw [hv'] at hx
      simp only [Bool.false_eq_true, if_false] at hx
      simp -dsimp -implicitDefEqProofs [hi', hw, hv']
      exact .mk (i + 1) ⟨by omega, hx⟩ (by omega) (Sub.keep (by simp) (by simp [hsub]) (by simp [hw]))
  · have : i = k.length := by omega
    subst this
    simp [idxF] at hx
    simp -dsimp -implicitDefEqProofs [← hx]
def inL (k : List Int) (v : Int) : Bool := k.any fun x => v == x
noncomputable def sp_containsI : List AV → Option (AV) := pf (ι := (List Int) × (Int)) (α := AV) (fun ⟨k, v⟩ => k.length ≤ 1048576) (fun ⟨k, v⟩ => [.sl (insA k) false, .int .i64 v]) (fun ⟨k, v⟩ => .bool (inL k v))
theorem sp_containsI_eq (k : List Int) (v : Int) (h : k.length ≤ 1048576) : sp_containsI [.sl (insA k) false, .int .i64 v] = some (.bool (inL k v)) := by
  unfold sp_containsI
  exact pf_eq (ι := (List Int) × (Int)) (α := AV) (k, v) h (by rintro ⟨k', v'⟩ _ e; simp_all [Int.natCast_inj])
theorem q_slices_Contains_Sint64_int64 : QP PP 221 sp_containsI := by
  refine QP_pf (fun i h => ?_) fun i h => ?_
  · obtain ⟨k, v⟩ := i; exact ⟨by first | rfl | simp, by first | rfl | simp⟩
  obtain ⟨k, v⟩ := i
  replace h : k.length ≤ 1048576 := h
  refine P_code (Quiet.q1 q_slices_Index_Sint64_int64 Quiet.nil) hmix k_slices_Contains_Sint64_int64 rfl ?_ ?_
  · first | rfl | simp
  show wpc 0 PP _ c_slices_Contains_Sint64_int64 (initSt [.sl (insA k) false, .int .i64 v] .nil) (endP r_slices_Contains_Sint64_int64 (.bool (inL k v)))
  have h1 := sp_indexI_eq k v h
  have h2 := idxF_ge (fun x => v == x) k 0
  have h3 : (k.any fun x => v == x) = inL k v := rfl
  rw [h3] at h2
  simp -dsimp -implicitDefEqProofs [c_slices_Contains_Sint64_int64, r_slices_Contains_Sint64_int64, h1, h2]

def newM (now : List Int) (x : Int) : Bool := !inL now x
theorem nodup_snoc {now : List Int} {x : Int} (h : now.Nodup) (hx : inL now x = false) : (now ++ [x]).Nodup := by
  rw [List.nodup_append]
  refine ⟨h, by simp, fun a ha b hb e => ?_⟩
  rw [List.mem_singleton] at hb
  subst hb; subst e
  unfold inL at hx
  rw [List.any_eq_false] at hx
  exact hx a ha (by simp)
theorem T_listed {ι : Type} {H : ι → List (Option (List AV))} {N : Nat} {g2 : FuncId} {caps2 : List AV} {en : List Int → ι → Bool × ι}
    (hN : ∀ s, (H s).length = N) (hall : ∀ s b, b < N → (hget (H s) b).isSome = true) (ho : ∀ s, ClosedH (H s))
    (hc2 : ltL N caps2 = true) {m k : Nat} (hm : m ≤ 5) (hk : k ≤ 5)
    (hen : ∀ s (K : List Int), K.length = m → (∀ x ∈ K, 0 ≤ x ∧ x < (k : Int)) → K.Nodup → T PP g2 ([.sl (insA K) false] ++ caps2) ⟨H s⟩ fun r A' => r = .bool (en K s).1 ∧ A' = ⟨H (en K s).2⟩) :
    ∀ (d : Nat) (now : List Int) (s : ι), now.length + d = m → (∀ x ∈ now, 0 ≤ x ∧ x < (k : Int)) → now.Nodup →
      T PP 211 [.int .i64 k, .int .i64 m, .sl (insA now) false, .fn g2 caps2] ⟨H s⟩ fun r A' => r = .bool (goL en (dfsL newM k d now) s).1 ∧ A' = ⟨H (goL en (dfsL newM k d now) s).2⟩ := by
  intro d
  induction d with
  | zero =>
    intro now s hd hr hnd
    refine H_code (Quiet.q1 q_slices_Clip_Sint64_int64 (Quiet.q1 q_slices_Contains_Sint64_int64 Quiet.nil)) hmix k_impl_listed rfl (fun b => b) (by simp [AHeap.n, hN]) (fun _ _ => rfl) (injB_id _) (by rfl) ?_
    show wpc (H s).length PP _ c_impl_listed (initSt [.int .i64 k, .int .i64 m, .sl (insA now) false, .fn g2 caps2] ⟨H s⟩) _
    have hb : ((now.length : Int) == (m : Int)) = true := by simp; omega
    simp -dsimp -implicitDefEqProofs [c_impl_listed, r_impl_listed, hb]
    refine (hen s now (by omega) hr hnd).mono ?_
    rintro r A' ⟨rfl, rfl⟩
    simp -dsimp -implicitDefEqProofs [dfsL, goL_one, hsub_all (ho _)]
  | succ d ih =>
    intro now s hd hr hnd
    refine H_code (Quiet.q1 q_slices_Clip_Sint64_int64 (Quiet.q1 q_slices_Contains_Sint64_int64 Quiet.nil)) hmix k_impl_listed rfl (fun b => b) (by simp [AHeap.n, hN]) (fun _ _ => rfl) (injB_id _) (by rfl) ?_
    show wpc (H s).length PP _ c_impl_listed (initSt [.int .i64 k, .int .i64 m, .sl (insA now) false, .fn g2 caps2] ⟨H s⟩) _
    rw [hN s]
    have hb : ((now.length : Int) == (m : Int)) = false := by simp; omega
    simp -dsimp -implicitDefEqProofs [c_impl_listed, r_impl_listed, hb]
    refine wpLoop_st (fun (q : ι × Nat) => ⟨tl [(0, .int .i64 k), (1, .int .i64 m), (2, .sl (insA now) false), (3, .fn g2 caps2), (17, .int .i64 k), (18, .int .i64 q.2)], ⟨H q.1⟩⟩) (fun q => q.2 ≤ k ∧ goL en (restL newM k d now q.2) q.1 = goL en (dfsL newM k (d + 1) now) s) (fun q => k - q.2) (s, 0) ⟨Nat.zero_le _, by rw [restL_zero]⟩ (Sub.preN (hN _) (ho _) (by simp [hc2])) ?_
    rintro ⟨s1, x⟩ ⟨hx, hg⟩
    simp only at hx hg
    simp -dsimp -implicitDefEqProofs
    refine brW_of (fun h => ?_) (fun h => ?_) <;> simp only [decide_eq_true_eq, decide_eq_false_iff_not] at h
    · have hx' : x < k := by omega
      have hwx := wrapNat (i := x) (by omega)
      have hct := sp_containsI_eq now x (by omega)
      rw [restL_step _ _ _ _ _ hx'] at hg
      cases hv : inL now x with
      | true =>
        have hv' : newM now x = false := by unfold newM; rw [hv]; rfl
        rw [hv] at hct
        rw [hv'] at hg
        simp only [Bool.false_eq_true, if_false, List.nil_append] at hg
        simp -dsimp -implicitDefEqProofs [hwx, hct]
        exact .mk (s1, x + 1) ⟨by simp only; omega, hg⟩ (by simp only; omega) (Sub.preN (hN _) (ho _) (by simp [hc2, hwx]))
      | false =>
        have hv' : newM now x = true := by unfold newM; rw [hv]; rfl
        rw [hv] at hct
        rw [hv', if_pos rfl, goL_append] at hg
        have hmb : (now.length + 1) * 9 ≤ mostBytes := by simp only [mostBytes]; omega
        have hcat : flatA (insA now) ++ [.int .i64 (x : Int)] = flatA (insA (now ++ [(x : Int)])) := by rw [flatA_append, flatA_one]; rfl
        simp -dsimp -implicitDefEqProofs [hwx, hct, hmb, hcat, hN]
        have hrec := ih (now ++ [(x : Int)]) s1 (by simp; omega) (fun y hy => by
          rw [List.mem_append, List.mem_singleton] at hy
          rcases hy with hy | rfl
          · exact hr y hy
          · omega) (nodup_snoc hnd hv)
        have hT := T_ref (c0 := [.int .i64 (x : Int)]) (t := .full) (a1 := [.int .i64 k, .int .i64 m]) (a2 := [.fn g2 caps2]) hrec (ho s1) (by rw [hN, hN]) (ho _) (fun b hb => hall _ b (by rw [← hN s1]; exact hb)) (by simp [hN]) (by simp [hN, hc2]) rfl
        simp only [hN, List.length_append, List.length_cons, List.length_nil, Nat.zero_add, List.cons_append, List.nil_append] at hT
        refine hT.mono ?_
        rintro r A' ⟨rfl, rfl⟩
        cases hgo : (goL en (dfsL newM k d (now ++ [(x : Int)])) s1).1 with
        | true =>
          rw [hgo, if_pos rfl] at hg
          have hg1 := congrArg Prod.fst hg
          have hg2 := congrArg Prod.snd hg
          simp only [hgo] at hg1
          simp -dsimp -implicitDefEqProofs [hgo, ← hg2, ← hg1, hsub_all (ho _)]
          exact hsub_pre (ho _) (Nat.le_refl _)
        | false =>
          rw [hgo] at hg
          simp only [Bool.false_eq_true, if_false] at hg
          simp -dsimp -implicitDefEqProofs [hgo, hwx]
          exact .mk (_, x + 1) ⟨by simp only; omega, hg⟩ (by simp only; omega) (Sub.preR (hN _) (ho _) (by simp [hc2, hwx]))
    · have : x = k := by omega
      subst this
      rw [restL_end] at hg
      simp -dsimp -implicitDefEqProofs [← hg, goL, hsub_all (ho _)]
end Go.Proofs.YtgophedkejgedaaGreatDoorAi
end

section
/- Contracts: graphs on lists of vertices; orders; how many orders make a graph itself. -/
namespace Go.Proofs.YtgophedkejgedaaGreatDoorAi
open Go Go.RowKit
set_option linter.unusedVariables false
set_option linter.unusedSimpArgs false
set_option maxRecDepth 20000

/-- A list of different vertices. -/
def distL (L : List Int) : Prop := L.Nodup ∧ L.length ≤ 5 ∧ allPart L
theorem distL.ne {L : List Int} (h : distL L) {i j : Nat} (hi : i < L.length) (hj : j < L.length) (hij : i ≠ j) : atI L i ≠ atI L j := by
  rw [← atI_get hi, ← atI_get hj]
  intro e
  exact hij ((List.getElem_inj h.1).1 e)
def onE (e : Int) (L : List Int) : Nat := madeE (fun i j => hasB e (atI L i) (atI L j)) L.length
noncomputable def sp_on1 : List (Option (List AV)) → List AV → Option (AV × List (Option (List AV))) := pv (pf (ι := (Int) × (Int) × (List Int) × (Int) × (Int)) (α := AV × List (Option (List AV))) (fun ⟨n, e, L, i, j⟩ => (0 ≤ e ∧ e ≤ 4294967295) ∧ distL L ∧ (0 ≤ i ∧ i < L.length) ∧ (0 ≤ j ∧ j < L.length) ∧ i ≠ j) (fun i => .agg (((fun ⟨n, e, L, i, j⟩ => [some [.int .i64 n, .int .u32 e], some [.sl (insA L) false]] : (Int) × (Int) × (List Int) × (Int) × (Int) → List (Option (List AV))) i).map enO) :: (fun ⟨n, e, L, i, j⟩ => [.int .i64 i, .int .i64 j, .ptr 0 0, .ptr 1 0] : (Int) × (Int) × (List Int) × (Int) × (Int) → List AV) i) (fun ⟨n, e, L, i, j⟩ => (.bool (hasB e (atI L i.toNat) (atI L j.toNat)), [some [.int .i64 n, .int .u32 e], some [.sl (insA L) false]])))
theorem sp_on1_eq (n e : Int) (L : List Int) (i j : Int) (h : (0 ≤ e ∧ e ≤ 4294967295) ∧ distL L ∧ (0 ≤ i ∧ i < L.length) ∧ (0 ≤ j ∧ j < L.length) ∧ i ≠ j) : sp_on1 [some [.int .i64 n, .int .u32 e], some [.sl (insA L) false]] [.int .i64 i, .int .i64 j, .ptr 0 0, .ptr 1 0] = some (.bool (hasB e (atI L i.toNat) (atI L j.toNat)), [some [.int .i64 n, .int .u32 e], some [.sl (insA L) false]]) := by
  unfold sp_on1 pv
  exact pf_eq (ι := (Int) × (Int) × (List Int) × (Int) × (Int)) (α := AV × List (Option (List AV))) (n, e, L, i, j) h (by rintro ⟨n', e', L', i', j'⟩ _ e; simp_all [enO, Int.natCast_inj])
theorem v_impl_Graph_on_1 : QV PP 210 sp_on1 := by
  refine QV_pf fun i h => ?_
  obtain ⟨n, e, L, i, j⟩ := i
  replace h : (0 ≤ e ∧ e ≤ 4294967295) ∧ distL L ∧ (0 ≤ i ∧ i < L.length) ∧ (0 ≤ j ∧ j < L.length) ∧ i ≠ j := h
  refine H_code (Quiet.q1 q_impl_Graph_has Quiet.nil) hmix k_impl_Graph_on_1 rfl (fun b => b) (by simp [AHeap.n]) (fun _ _ => rfl) (by rfl) (by first | rfl | simp) ?_
  show wpc _ PP _ c_impl_Graph_on_1 (initSt [.int .i64 i, .int .i64 j, .ptr 0 0, .ptr 1 0] ⟨[some [.int .i64 n, .int .u32 e], some [.sl (insA L) false]]⟩) (endH (fun b => b) r_impl_Graph_on_1 (.bool (hasB e (atI L i.toNat) (atI L j.toNat))) [some [.int .i64 n, .int .u32 e], some [.sl (insA L) false]])
  obtain ⟨he, hL, ⟨i0, hi⟩, ⟨j0, hj⟩, hij⟩ := h
  obtain ⟨i, rfl⟩ := Int.eq_ofNat_of_zero_le i0
  obtain ⟨j, rfl⟩ := Int.eq_ofNat_of_zero_le j0
  have hi : i < L.length := by omega
  have hj : j < L.length := by omega
  have hij : i ≠ j := by omega
  have hh := sp_has_eq n e (atI L i) (atI L j) ⟨he, hL.2.2.at hi, hL.2.2.at hj, hL.ne hi hj hij⟩
  simp -dsimp -implicitDefEqProofs [c_impl_Graph_on_1, r_impl_Graph_on_1, hi, hj, atI_get hi, atI_get hj, hh, hsub]
theorem e_made_on : QE PP 209 (spMade 210 (spV sp_on1)) := QE_made v_impl_Graph_on_1.toE
noncomputable def sp_on : List AV → Option (AV) := pf (ι := (Int) × (Int) × (List Int)) (α := AV) (fun ⟨n, e, L⟩ => (0 ≤ e ∧ e ≤ 4294967295) ∧ distL L) (fun ⟨n, e, L⟩ => [.agg [.int .i64 n, .int .u32 e], .sl (insA L) false]) (fun ⟨n, e, L⟩ => .agg [.int .i64 L.length, .int .u32 (onE e L)])
theorem sp_on_eq (n e : Int) (L : List Int) (h : (0 ≤ e ∧ e ≤ 4294967295) ∧ distL L) : sp_on [.agg [.int .i64 n, .int .u32 e], .sl (insA L) false] = some (.agg [.int .i64 L.length, .int .u32 (onE e L)]) := by
  unfold sp_on
  exact pf_eq (ι := (Int) × (Int) × (List Int)) (α := AV) (n, e, L) h (by rintro ⟨n', e', L'⟩ _ e; simp_all [Int.natCast_inj])
theorem q_impl_Graph_on : QP PP 183 sp_on := by
  refine QP_pf (fun i h => ?_) fun i h => ?_
  · obtain ⟨n, e, L⟩ := i; exact ⟨by first | rfl | simp, by first | rfl | simp⟩
  obtain ⟨n, e, L⟩ := i
  replace h : (0 ≤ e ∧ e ≤ 4294967295) ∧ distL L := h
  refine P_code (Quiet.e1 e_made_on Quiet.nil) hmix k_impl_Graph_on rfl ?_ ?_
  · first | rfl | simp
  show wpc 0 PP _ c_impl_Graph_on (initSt [.agg [.int .i64 n, .int .u32 e], .sl (insA L) false] .nil) (endP r_impl_Graph_on (.agg [.int .i64 L.length, .int .u32 (onE e L)]))
  obtain ⟨he, hL⟩ := h
  have hm := spMade_eq (g := 210) (sp := spV sp_on1) (n := L.length) (caps := [.ptr 0 0, .ptr 1 0]) (A := ⟨[some [.int .i64 n, .int .u32 e], some [.sl (insA L) false], some [.int .i64 0, .int .u32 0]]⟩) (fun i j => hasB e (atI L i) (atI L j)) (by have := hL.2.1; omega) (fun i j hi hj => by
    have := sp_on1_eq n e L i j ⟨he, hL, by omega, by omega, by omega⟩
    simp [this])
  simp -dsimp -implicitDefEqProofs [c_impl_Graph_on, r_impl_Graph_on, hm, onE]
theorem q_spec_l01On : QP PP 137 sp_on := by
  refine QP_pf (fun i h => ?_) fun i h => ?_
  · obtain ⟨n, e, L⟩ := i; exact ⟨by first | rfl | simp, by first | rfl | simp⟩
  obtain ⟨n, e, L⟩ := i
  replace h : (0 ≤ e ∧ e ≤ 4294967295) ∧ distL L := h
  refine P_code (Quiet.q1 q_spec_l01Joined (Quiet.q1 q_spec_l01Bit Quiet.nil)) hmix k_spec_l01On rfl ?_ ?_
  · first | rfl | simp
  show wpc 0 PP _ c_spec_l01On (initSt [.agg [.int .i64 n, .int .u32 e], .sl (insA L) false] .nil) (endP r_spec_l01On (.agg [.int .i64 L.length, .int .u32 (onE e L)]))
  obtain ⟨he, hL⟩ := h
  have hl5 := hL.2.1
  simp -dsimp -implicitDefEqProofs [c_spec_l01On, r_spec_l01On]
  refine wpLoop_st (fun (j : Nat) => ⟨tl [(1, .sl (insA L) false), (2, .ptr 0 0), (4, .ptr 1 0), (5, .ptr 2 0), (6, .int .i64 j)], ⟨[some [.int .i64 n, .int .u32 e], some [.int .i64 0, .int .u32 0], some [.int .i64 L.length, .int .u32 (madeE (fun i j => hasB e (atI L i) (atI L j)) j)]]⟩⟩) (fun j => 1 ≤ j ∧ j ≤ max L.length 1) (fun j => max L.length 1 - j) 1 ⟨by omega, by omega⟩ (Sub.keep (by simp) (by simp [hsub, madeE, rowE]) (by simp)) ?_
  rintro j ⟨j1, hj⟩
  simp -dsimp -implicitDefEqProofs
  refine brW_of (fun h => ?_) (fun h => ?_) <;> simp only [decide_eq_true_eq, decide_eq_false_iff_not] at h
  · have hj' : j < L.length := by omega
    have hwj := wrapNat (i := j) (by omega)
    simp -dsimp -implicitDefEqProofs
    refine wpLoop_st (fun (i : Nat) => ⟨tl [(1, .sl (insA L) false), (2, .ptr 0 0), (4, .ptr 1 0), (5, .ptr 2 0), (6, .int .i64 j), (7, .int .i64 i)], ⟨[some [.int .i64 n, .int .u32 e], some [.int .i64 0, .int .u32 0], some [.int .i64 L.length, .int .u32 (rowE (fun i j => hasB e (atI L i) (atI L j)) j (madeE (fun i j => hasB e (atI L i) (atI L j)) j) i)]]⟩⟩) (fun i => i ≤ j) (fun i => j - i) 0 (by omega) (Sub.keep (by simp) (by simp [hsub, rowE]) (by simp)) ?_
    intro i hi
    simp -dsimp -implicitDefEqProofs
    refine brW_of (fun h => ?_) (fun h => ?_) <;> simp only [decide_eq_true_eq, decide_eq_false_iff_not] at h
    · have hi' : i < L.length := by omega
      have hwi := wrapNat (i := i) (by omega)
      have hJ := sp_l01Joined_eq n e (atI L i) (atI L j) ⟨he, hL.2.2.at hi', hL.2.2.at hj'⟩
      have hq2 : joinedB e (atI L i) (atI L j) = hasB e (atI L i) (atI L j) := by
        have := hL.ne hi' hj' (by omega)
        simp only [joinedB, ne_eq, this, not_false_eq_true, decide_true, Bool.true_and]
      rw [hq2] at hJ
      have hb := sp_bit_eq i j (by omega)
      have hor := orBit (rowE_lt (J := fun i j => hasB e (atI L i) (atI L j)) (j := j) (i := i) (madeE_lt (J := fun i j => hasB e (atI L i) (atI L j)) (n := j) (by omega)) (by omega) hi) (bitI_lt (i := i) (j := j) h (by omega))
      cases hv : hasB e (atI L i) (atI L j) with
      | false =>
        rw [hv] at hJ
        simp -dsimp -implicitDefEqProofs [hi', hj', atI_get hi', atI_get hj', hJ, hwi]
        exact .mk (i + 1) (by omega) (by omega) (Sub.keep (by simp) (by simp [hsub, rowE, hv]) (by simp [hwi]))
      | true =>
        rw [hv] at hJ
        simp -dsimp -implicitDefEqProofs [hi', hj', atI_get hi', atI_get hj', hJ, hwi, hb]
        exact .mk (i + 1) (by omega) (by omega) (Sub.keep (by simp) (by simp [hsub, rowE, hv, hor]) (by simp [hwi]))
    · have : i = j := by omega
      subst this
      simp -dsimp -implicitDefEqProofs [hwj]
      exact .mk (i + 1) (by omega) (by omega) (Sub.keep (by simp) (by simp [hsub, madeE]) (by simp [hwj]))
  · rcases Nat.eq_zero_or_pos L.length with h0 | h0
    · have hL0 : L = [] := List.eq_nil_of_length_eq_zero h0
      subst hL0
      have : j = 1 := by simp at hj; omega
      subst this
      simp -dsimp -implicitDefEqProofs [onE, madeE, rowE]
    · have : j = L.length := by omega
      subst this
      simp -dsimp -implicitDefEqProofs [onE]

/-! ### the first numbers -/
def upTo : Nat → List Int
  | 0 => []
  | n + 1 => upTo n ++ [(n : Int)]
@[simp] theorem upTo_len : ∀ n, (upTo n).length = n
  | 0 => rfl
  | n + 1 => by simp [upTo, upTo_len n]
theorem upTo_mem : ∀ {n : Nat} {x : Int}, x ∈ upTo n → 0 ≤ x ∧ x < n
  | 0, x, h => by cases h
  | n + 1, x, h => by
    rw [upTo, List.mem_append, List.mem_singleton] at h
    rcases h with h | rfl
    · have := upTo_mem h; omega
    · omega
theorem upTo_ne {n : Nat} (h : 0 < n) : upTo n ≠ [] := by
  intro e
  have := congrArg List.length e
  simp at this
  omega
theorem upTo_nodup : ∀ n, (upTo n).Nodup
  | 0 => by simp [upTo]
  | n + 1 => by
    rw [upTo]
    refine nodup_snoc (upTo_nodup n) ?_
    unfold inL
    rw [List.any_eq_false]
    intro x hx e
    have := upTo_mem hx
    have e : (n : Int) = x := by simpa using e
    omega
def firstR (n : Nat) : AV × List (Option (List AV)) := if n = 0 then (.sl [] true, []) else (.ref 0 1 0 n .full, [some (flatA (insA (upTo n)))])
noncomputable def sp_firstP : List AV → Option (AV × List (Option (List AV))) := pf (ι := (Nat)) (α := AV × List (Option (List AV))) (fun n => n ≤ 1000) (fun n => [.int .i64 n]) (fun n => firstR n)
theorem sp_firstP_eq (n : Nat) (h : n ≤ 1000) : sp_firstP [.int .i64 n] = some (firstR n) := by
  unfold sp_firstP
  exact pf_eq (ι := (Nat)) (α := AV × List (Option (List AV))) n h (by rintro n' _ e; simp_all [Int.natCast_inj])
theorem first_step (i : Nat) : flatA (insA (upTo i)) ++ [.int .i64 (i : Int)] = flatA (insA (upTo (i + 1))) := by rw [upTo, flatA_append, flatA_one]; rfl
theorem n_impl_first : QN PP 184 sp_firstP := by
  refine QN_pf (fun n h => ?_) fun n h => ?_
  · first | rfl | simp
  replace h : n ≤ 1000 := h
  show T PP 184 [.int .i64 n] .nil fun r' A' => r' = ((firstR n : AV × List (Option (List AV)))).1 ∧ A' = ⟨((firstR n : AV × List (Option (List AV)))).2⟩
  rcases Nat.eq_zero_or_pos n with rfl | hn
  · rw [show firstR 0 = (.sl [] true, []) from rfl]
    refine H_code Quiet.nil hmix k_impl_first rfl (fun _ => 0) (by simp [AHeap.n, AHeap.nil]) (by intro b hb; simp [AHeap.n, AHeap.nil] at hb <;> subst hb <;> rfl) (by rfl) (by first | rfl | simp) ?_
    simp -dsimp -implicitDefEqProofs [c_impl_first, r_impl_first]
    refine wpLoop_st (fun (i : Unit) => ⟨tl [(3, .sl [] true), (6, .int .i64 0), (7, .int .i64 0)], ⟨[]⟩⟩) (fun _ => True) (fun _ => 0) () trivial (Sub.keep (by simp) (by simp [hsub]) (by simp)) ?_
    rintro _ _
    simp -dsimp -implicitDefEqProofs [hsub]
  · rw [show firstR n = (.ref 0 1 0 n .full, [some (flatA (insA (upTo n)))]) from if_neg (by omega)]
    refine H_code Quiet.nil hmix k_impl_first rfl (fun _ => 0) (by simp [AHeap.n, AHeap.nil]) (by intro b hb; simp [AHeap.n, AHeap.nil] at hb <;> subst hb <;> rfl) (by rfl) (by first | rfl | simp) ?_
    simp -dsimp -implicitDefEqProofs [c_impl_first, r_impl_first]
    refine wpLoop_st (fun (i : Nat) => ⟨tl [(3, cellL 0 (upTo i)), (6, .int .i64 n), (7, .int .i64 i)], ⟨objL (upTo i)⟩⟩) (fun i => i ≤ n) (fun i => n - i) 0 (by omega) (Sub.keep (by simp) (by simp [hsub, upTo, objL_nil]) (by simp [upTo, objL_nil, cellL_nil])) ?_
    intro i hi
    rcases Nat.eq_zero_or_pos i with rfl | hi0
    · simp only [upTo, cellL_nil, objL_nil]
      have hm : 1 * 9 ≤ mostBytes := by decide
      have hw : IntKind.i64.wrap 1 = 1 := rfl
      simp -dsimp -implicitDefEqProofs [hn, hm, hw]
      refine .mk 1 (by omega) (by omega) ?_
      rw [cellL_cons (upTo_ne (by omega)), objL_cons (upTo_ne (by omega))]
      exact Sub.mk' (fun b => if b = 0 then 1 else b) (by simp) (by intro b hb; omega) (by rfl) (by simp [hsub, upTo, flat_in]) (by simp [hw])
    · rw [cellL_cons (upTo_ne hi0), objL_cons (upTo_ne hi0)]
      simp -dsimp -implicitDefEqProofs
      refine brW_of (fun h => ?_) (fun h => ?_) <;> simp only [decide_eq_true_eq, decide_eq_false_iff_not] at h
      · have hw := wrapNat (i := i) (by omega)
        have hm : (i + 1) * 9 ≤ mostBytes := by simp only [mostBytes]; omega
        have hfit : ¬ (i + 1 ≤ i) := by omega
        have htl : (flatA (insA (upTo i))).take i = flatA (insA (upTo i)) := List.take_of_length_le (by simp)
        have hst := first_step i
        simp -dsimp -implicitDefEqProofs [hw, hm, hfit, htl, hst]
        refine .mk (i + 1) (by omega) (by omega) ?_
        rw [cellL_cons (upTo_ne (by omega)), objL_cons (upTo_ne (by omega))]
        exact Sub.mk' (fun b => if b = 0 then 2 else b) (by simp) (by intro b hb; omega) (by rfl) (by simp [hsub]) (by simp [hw])
      · have : i = n := by omega
        subst this
        simp -dsimp -implicitDefEqProofs [hsub]
end Go.Proofs.YtgophedkejgedaaGreatDoorAi
end

section
/- Contracts: orders; how many orders make a graph itself; whether a graph is least. -/
namespace Go.Proofs.YtgophedkejgedaaGreatDoorAi
open Go Go.RowKit
set_option linter.unusedVariables false
set_option linter.unusedSimpArgs false
set_option maxRecDepth 20000

def ordersL (n stay : Nat) : List (List Int) := dfsL newM n (n - stay) (upTo stay)
theorem ClosedH.snoc {os : List (Option (List AV))} {c : List AV} (h : ClosedH os) (hc : ltL os.length c = true) : ClosedH (os ++ [some c]) := by
  intro b cs hb
  rw [hget_append] at hb
  have hle : os.length ≤ (os ++ [some c]).length := by simp
  split at hb
  · exact ltL_mono hle _ (h b cs hb)
  · rename_i hlt
    have : b - os.length = 0 := by
      have := hget_lt hb
      simp at this
      omega
    rw [this] at hb
    simp [hget] at hb
    subst hb
    exact ltL_mono hle _ hc
@[simp] theorem leL_app : ∀ (os r r' : List (Option (List AV))), leL (os ++ r) (os ++ r') ↔ leL r r'
  | [], r, r' => Iff.rfl
  | none :: os, r, r' => by simp only [List.cons_append, leL]; exact leL_app os r r'
  | some c :: os, r, r' => by simp only [List.cons_append, leL, true_and]; exact leL_app os r r'
theorem T_orders {ι : Type} {H : ι → List (Option (List AV))} {N : Nat} {g2 : FuncId} {caps2 : List AV} {en : List Int → ι → Bool × ι} {e : Int}
    (hN : ∀ s, (H s).length = N) (hall : ∀ s b, b < N → (hget (H s) b).isSome = true) (ho : ∀ s, ClosedH (H s))
    (hc2 : ltL N caps2 = true) (hcl : looseL caps2 = caps2) {n stay : Nat} (hn : n ≤ 5) (hst : stay ≤ n)
    (hen : ∀ s (K : List Int), K.length = n → (∀ x ∈ K, 0 ≤ x ∧ x < (n : Int)) → K.Nodup → T PP g2 ([.sl (insA K) false] ++ caps2) ⟨H s⟩ fun r A' => r = .bool (en K s).1 ∧ A' = ⟨H (en K s).2⟩) (s : ι) :
      T PP 185 [.agg [.int .i64 n, .int .u32 e], .int .i64 stay, .fn g2 caps2] ⟨H s⟩ fun r A' => r = .bool (goL en (ordersL n stay) s).1 ∧ A' = ⟨H (goL en (ordersL n stay) s).2⟩ := by
  have hL := T_listed hN hall ho hc2 (m := n) (k := n) hn hn hen (n - stay) (upTo stay) s (by simp; omega) (fun x hx => by have := upTo_mem hx; omega) (upTo_nodup stay)
  have hf := sp_firstP_eq stay (by omega)
  unfold firstR at hf
  refine H_code (Quiet.e1 n_impl_first.toE Quiet.nil) hmix k_impl_Graph_orders rfl (fun b => b) (by simp [AHeap.n, hN]) (fun _ _ => rfl) (injB_id _) (by rfl) ?_
  show wpc (H s).length PP _ c_impl_Graph_orders (initSt [.agg [.int .i64 n, .int .u32 e], .int .i64 stay, .fn g2 caps2] ⟨H s⟩) _
  have hG : goL en (dfsL newM n (n - stay) (upTo stay)) s = goL en (ordersL n stay) s := rfl
  rw [hG] at hL
  generalize goL en (ordersL n stay) s = G at hL ⊢
  obtain ⟨gb, gs⟩ := G
  simp only at hL ⊢
  rcases Nat.eq_zero_or_pos stay with rfl | h0
  · rw [if_pos rfl] at hf
    have hf0 : sp_firstP [.int .i64 0] = some (.sl [] true, []) := hf
    have hE := hL.seesE (ho s) (by rw [hN, hN]) (ho gs) (fun b hb => hall _ b (by rw [← hN s]; exact hb)) (by simp [hN, hc2]) rfl [some [.int .i64 n, .int .u32 e]]
    simp -dsimp -implicitDefEqProofs [c_impl_Graph_orders, r_impl_Graph_orders, hf0, leL, renL]
    refine T.loose ?_
    rw [show looseL [AV.int .i64 n, .int .i64 n, .sl [] true, .fn g2 caps2] = [.int .i64 n, .int .i64 n, .sl (insA (upTo 0)) false, .fn g2 caps2] by simp [looseL, AV.loose, hcl, upTo, mapA]]
    refine T.mono hE ?_
    rintro r A' ⟨rfl, rfl⟩
    simp -dsimp -implicitDefEqProofs [hN, hsub_pre (ho gs)]
  · rw [if_neg (by omega)] at hf
    have hT := T_ref (c0 := [.int .i64 n, .int .u32 e]) (t := .full) (a1 := [.int .i64 n, .int .i64 n]) (a2 := [.fn g2 caps2]) hL (ho s) (by rw [hN, hN]) (ho gs) (fun b hb => hall _ b (by rw [← hN s]; exact hb)) (by simp [hN]) (by simp [hN, hc2]) rfl
    rw [upTo_len] at hT
    simp -dsimp -implicitDefEqProofs [c_impl_Graph_orders, r_impl_Graph_orders, hf, leL, shiftN]
    refine T.mono hT ?_
    rintro r A' ⟨rfl, rfl⟩
    simp -dsimp -implicitDefEqProofs [hN, hsub_pre (ho gs)]
end Go.Proofs.YtgophedkejgedaaGreatDoorAi
end

section
/- Contracts: how many orders make a graph itself; whether a graph is least. -/
namespace Go.Proofs.YtgophedkejgedaaGreatDoorAi
open Go Go.RowKit
set_option linter.unusedVariables false
set_option linter.unusedSimpArgs false
set_option maxRecDepth 20000

def selfB (e : Int) (K : List Int) : Bool := decide ((onE e K : Int) = e)
def cntW (p : List Int → Bool) : Int → List (List Int) → Int
  | c, [] => c
  | c, L :: r => cntW p (if p L = true then IntKind.i64.wrap (c + 1) else c) r
theorem cntW_eq (p : List Int → Bool) : ∀ (AL : List (List Int)) (c : Int), 0 ≤ c → c + AL.length ≤ 1000000 → cntW p c AL = c + (AL.filter p).length
  | [], c, h0, h => by simp [cntW]
  | L :: r, c, h0, h => by
    rw [List.length_cons] at h
    rw [cntW, List.filter_cons]
    have hw : IntKind.i64.wrap (c + 1) = c + 1 := wrapI64 (by omega) (by omega)
    cases hp : p L with
    | false => simp only [Bool.false_eq_true, if_false]; exact cntW_eq p r c h0 (by omega)
    | true =>
      simp only [if_true, hw, List.length_cons]
      rw [cntW_eq p r (c + 1) (by omega) (by omega)]
      omega
noncomputable def sp_selves1 : List (Option (List AV)) → List AV → Option (AV × List (Option (List AV))) := pv (pf (ι := (Nat) × (Int) × (Int) × (List Int)) (α := AV × List (Option (List AV))) (fun ⟨n, e, c, K⟩ => (0 ≤ e ∧ e ≤ 4294967295) ∧ distL K ∧ K.length = n) (fun i => .agg (((fun ⟨n, e, c, K⟩ => [some [.int .i64 n, .int .u32 e], some [.int .i64 c]] : (Nat) × (Int) × (Int) × (List Int) → List (Option (List AV))) i).map enO) :: (fun ⟨n, e, c, K⟩ => [.sl (insA K) false, .ptr 0 0, .ptr 1 0] : (Nat) × (Int) × (Int) × (List Int) → List AV) i) (fun ⟨n, e, c, K⟩ => (.bool false, [some [.int .i64 n, .int .u32 e], some [.int .i64 (if selfB e K = true then IntKind.i64.wrap (c + 1) else c)]])))
theorem sp_selves1_eq (n : Nat) (e c : Int) (K : List Int) (h : (0 ≤ e ∧ e ≤ 4294967295) ∧ distL K ∧ K.length = n) : sp_selves1 [some [.int .i64 n, .int .u32 e], some [.int .i64 c]] [.sl (insA K) false, .ptr 0 0, .ptr 1 0] = some (.bool false, [some [.int .i64 n, .int .u32 e], some [.int .i64 (if selfB e K = true then IntKind.i64.wrap (c + 1) else c)]]) := by
  unfold sp_selves1 pv
  exact pf_eq (ι := (Nat) × (Int) × (Int) × (List Int)) (α := AV × List (Option (List AV))) (n, e, c, K) h (by rintro ⟨n', e', c', K'⟩ _ e; simp_all [enO, Int.natCast_inj])
def selfEn (e : Int) (K : List Int) (c : Int) : Bool × Int := (false, if selfB e K = true then IntKind.i64.wrap (c + 1) else c)
theorem goL_self (e : Int) : ∀ (AL : List (List Int)) (c : Int), (goL (selfEn e) AL c).2 = cntW (selfB e) c AL
  | [], c => rfl
  | L :: r, c => by
    rw [goL, cntW]
    have : (selfEn e L c).1 = false := rfl
    rw [this]
    simp only [Bool.false_eq_true, if_false]
    exact goL_self e r _
theorem hget2 {a b : Option (List AV)} {i : Nat} {cs : List AV} (h : hget [a, b] i = some cs) : (i = 0 ∧ a = some cs) ∨ (i = 1 ∧ b = some cs) := by
  have := hget_lt h
  simp at this
  have h2 : i = 0 ∨ i = 1 := by omega
  rcases h2 with rfl | rfl
  · exact .inl ⟨rfl, by simpa [hget] using h⟩
  · exact .inr ⟨rfl, by simpa [hget] using h⟩
def selvesV (n stay : Nat) (e : Int) : Int := cntW (selfB e) 0 (ordersL n stay)
noncomputable def sp_selves : List AV → Option (AV) := pf (ι := (Nat) × (Nat) × (Int)) (α := AV) (fun ⟨n, stay, e⟩ => (n ≤ 5 ∧ stay ≤ n) ∧ (0 ≤ e ∧ e ≤ 4294967295)) (fun ⟨n, stay, e⟩ => [.agg [.int .i64 n, .int .u32 e], .int .i64 stay]) (fun ⟨n, stay, e⟩ => .int .i64 (selvesV n stay e))
theorem sp_selves_eq (n stay : Nat) (e : Int) (h : (n ≤ 5 ∧ stay ≤ n) ∧ (0 ≤ e ∧ e ≤ 4294967295)) : sp_selves [.agg [.int .i64 n, .int .u32 e], .int .i64 stay] = some (.int .i64 (selvesV n stay e)) := by
  unfold sp_selves
  exact pf_eq (ι := (Nat) × (Nat) × (Int)) (α := AV) (n, stay, e) h (by rintro ⟨n', stay', e'⟩ _ e; simp_all [Int.natCast_inj])
/-! ### least graphs -/
def lessB (e : Int) (K : List Int) : Bool := decide ((onE e K : Int) < e)
noncomputable def sp_least1 : List (Option (List AV)) → List AV → Option (AV × List (Option (List AV))) := pv (pf (ι := (Nat) × (Int) × (List Int)) (α := AV × List (Option (List AV))) (fun ⟨n, e, K⟩ => (0 ≤ e ∧ e ≤ 4294967295) ∧ distL K ∧ K.length = n) (fun i => .agg (((fun ⟨n, e, K⟩ => [some [.int .i64 n, .int .u32 e]] : (Nat) × (Int) × (List Int) → List (Option (List AV))) i).map enO) :: (fun ⟨n, e, K⟩ => [.sl (insA K) false, .ptr 0 0] : (Nat) × (Int) × (List Int) → List AV) i) (fun ⟨n, e, K⟩ => (.bool (lessB e K), [some [.int .i64 n, .int .u32 e]])))
theorem sp_least1_eq (n : Nat) (e : Int) (K : List Int) (h : (0 ≤ e ∧ e ≤ 4294967295) ∧ distL K ∧ K.length = n) : sp_least1 [some [.int .i64 n, .int .u32 e]] [.sl (insA K) false, .ptr 0 0] = some (.bool (lessB e K), [some [.int .i64 n, .int .u32 e]]) := by
  unfold sp_least1 pv
  exact pf_eq (ι := (Nat) × (Int) × (List Int)) (α := AV × List (Option (List AV))) (n, e, K) h (by rintro ⟨n', e', K'⟩ _ e; simp_all [enO, Int.natCast_inj])
def leastV (n stay : Nat) (e : Int) : Bool := !(ordersL n stay).any (lessB e)
theorem goL_any (e : Int) : ∀ (AL : List (List Int)) (c : Unit), (goL (fun K (c : Unit) => (lessB e K, c)) AL c).1 = AL.any (lessB e)
  | [], c => rfl
  | L :: r, c => by
    rw [goL, List.any_cons]
    cases h : lessB e L with
    | true => simp
    | false => simp only [Bool.false_eq_true, if_false, Bool.false_or]; exact goL_any e r _
noncomputable def sp_least : List AV → Option (AV) := pf (ι := (Nat) × (Nat) × (Int)) (α := AV) (fun ⟨n, stay, e⟩ => (n ≤ 5 ∧ stay ≤ n) ∧ (0 ≤ e ∧ e ≤ 4294967295)) (fun ⟨n, stay, e⟩ => [.agg [.int .i64 n, .int .u32 e], .int .i64 stay]) (fun ⟨n, stay, e⟩ => .bool (leastV n stay e))
theorem sp_least_eq (n stay : Nat) (e : Int) (h : (n ≤ 5 ∧ stay ≤ n) ∧ (0 ≤ e ∧ e ≤ 4294967295)) : sp_least [.agg [.int .i64 n, .int .u32 e], .int .i64 stay] = some (.bool (leastV n stay e)) := by
  unfold sp_least
  exact pf_eq (ι := (Nat) × (Nat) × (Int)) (α := AV) (n, stay, e) h (by rintro ⟨n', stay', e'⟩ _ e; simp_all [Int.natCast_inj])
end Go.Proofs.YtgophedkejgedaaGreatDoorAi
end

section
/- Contracts: the reference's lists of different vertices, one behind another. -/
namespace Go.Proofs.YtgophedkejgedaaGreatDoorAi
open Go Go.RowKit
set_option linter.unusedVariables false
set_option linter.unusedSimpArgs false
set_option maxRecDepth 20000

theorem n_spec_l01First : QN PP 135 sp_firstP := by
  refine QN_pf (fun n h => ?_) fun n h => ?_
  · first | rfl | simp
  replace h : n ≤ 1000 := h
  show T PP 135 [.int .i64 n] .nil fun r' A' => r' = ((firstR n : AV × List (Option (List AV)))).1 ∧ A' = ⟨((firstR n : AV × List (Option (List AV)))).2⟩
  rcases Nat.eq_zero_or_pos n with rfl | hn
  · rw [show firstR 0 = (.sl [] true, []) from rfl]
    refine H_code Quiet.nil hmix k_spec_l01First rfl (fun _ => 0) (by simp [AHeap.n, AHeap.nil]) (by intro b hb; simp [AHeap.n, AHeap.nil] at hb <;> subst hb <;> rfl) (by rfl) (by first | rfl | simp) ?_
    simp -dsimp -implicitDefEqProofs [c_spec_l01First, r_spec_l01First]
    refine wpLoop_st (fun (i : Unit) => ⟨tl [(0, .int .i64 0), (3, .sl [] true), (4, .int .i64 0)], ⟨[]⟩⟩) (fun _ => True) (fun _ => 0) () trivial (Sub.keep (by simp) (by simp [hsub]) (by simp)) ?_
    rintro _ _
    simp -dsimp -implicitDefEqProofs [hsub]
  · rw [show firstR n = (.ref 0 1 0 n .full, [some (flatA (insA (upTo n)))]) from if_neg (by omega)]
    refine H_code Quiet.nil hmix k_spec_l01First rfl (fun _ => 0) (by simp [AHeap.n, AHeap.nil]) (by intro b hb; simp [AHeap.n, AHeap.nil] at hb <;> subst hb <;> rfl) (by rfl) (by first | rfl | simp) ?_
    simp -dsimp -implicitDefEqProofs [c_spec_l01First, r_spec_l01First]
    refine wpLoop_st (fun (i : Nat) => ⟨tl [(0, .int .i64 n), (3, cellL 0 (upTo i)), (4, .int .i64 i)], ⟨objL (upTo i)⟩⟩) (fun i => i ≤ n) (fun i => n - i) 0 (by omega) (Sub.keep (by simp) (by simp [hsub, upTo, objL_nil]) (by simp [upTo, objL_nil, cellL_nil])) ?_
    intro i hi
    rcases Nat.eq_zero_or_pos i with rfl | hi0
    · simp only [upTo, cellL_nil, objL_nil]
      have hm : 1 * 9 ≤ mostBytes := by decide
      have hw : IntKind.i64.wrap 1 = 1 := rfl
      simp -dsimp -implicitDefEqProofs [hn, hm, hw]
      refine .mk 1 (by omega) (by omega) ?_
      rw [cellL_cons (upTo_ne (by omega)), objL_cons (upTo_ne (by omega))]
      exact Sub.mk' (fun b => if b = 0 then 1 else b) (by simp) (by intro b hb; omega) (by rfl) (by simp [hsub, upTo, flat_in]) (by simp [hw])
    · rw [cellL_cons (upTo_ne hi0), objL_cons (upTo_ne hi0)]
      simp -dsimp -implicitDefEqProofs
      refine brW_of (fun h => ?_) (fun h => ?_) <;> simp only [decide_eq_true_eq, decide_eq_false_iff_not] at h
      · have hw := wrapNat (i := i) (by omega)
        have hm : (i + 1) * 9 ≤ mostBytes := by simp only [mostBytes]; omega
        have hfit : ¬ (i + 1 ≤ i) := by omega
        have htl : (flatA (insA (upTo i))).take i = flatA (insA (upTo i)) := List.take_of_length_le (by simp)
        have hst := first_step i
        simp -dsimp -implicitDefEqProofs [hw, hm, hfit, htl, hst]
        refine .mk (i + 1) (by omega) (by omega) ?_
        rw [cellL_cons (upTo_ne (by omega)), objL_cons (upTo_ne (by omega))]
        exact Sub.mk' (fun b => if b = 0 then 2 else b) (by simp) (by intro b hb; omega) (by rfl) (by simp [hsub]) (by simp [hw])
      · have : i = n := by omega
        subst this
        simp -dsimp -implicitDefEqProofs [hsub]
theorem inL_take {k : List Int} {v : Int} {i : Nat} (hi : i < k.length) : inL (k.take (i + 1)) v = (inL (k.take i) v || (v == k[i])) := by
  unfold inL
  rw [take_snoc k i hi, List.any_append]
  simp
theorem inL_of {k : List Int} {v : Int} (h : inL k v = true) : v ∈ k := by
  unfold inL at h
  obtain ⟨x, hx, e⟩ := List.any_eq_true.1 h
  have : v = x := by simpa using e
  rw [this]; exact hx
theorem q_spec_l01Among : QP PP 170 sp_containsI := by
  refine QP_pf (fun i h => ?_) fun i h => ?_
  · obtain ⟨k, v⟩ := i; exact ⟨by first | rfl | simp, by first | rfl | simp⟩
  obtain ⟨k, v⟩ := i
  replace h : k.length ≤ 1048576 := h
  refine P_code Quiet.nil hmix k_spec_l01Among rfl ?_ ?_
  · first | rfl | simp
  show wpc 0 PP _ c_spec_l01Among (initSt [.sl (insA k) false, .int .i64 v] .nil) (endP r_spec_l01Among (.bool (inL k v)))
  simp -dsimp -implicitDefEqProofs [c_spec_l01Among, r_spec_l01Among]
  refine wpLoop_st (fun (i : Nat) => ⟨tl [(0, .sl (insA k) false), (1, .int .i64 v), (5, .int .i64 i)], ⟨[]⟩⟩) (fun i => i ≤ k.length ∧ inL (k.take i) v = false) (fun i => k.length - i) 0 ⟨by omega, rfl⟩ (Sub.keep (by simp) (by simp [hsub]) (by simp)) ?_
  rintro i ⟨hi, hx⟩
  simp -dsimp -implicitDefEqProofs
  refine brW_of (fun h => ?_) (fun h => ?_) <;> simp only [decide_eq_true_eq, decide_eq_false_iff_not] at h
  · have hi' : i < k.length := by omega
    have hw := wrapNat (i := i) (by omega)
    have hst := inL_take (v := v) hi'
    rw [hx, Bool.false_or] at hst
    by_cases hv : k[i] = v
    · have hv' : (k[i] == v) = true := by simp [hv]
      have hin : inL k v = true := by
        unfold inL; rw [List.any_eq_true]; exact ⟨k[i], List.getElem_mem hi', by simp [hv]⟩
      simp -dsimp -implicitDefEqProofs [hi', hv', hin]
    · have hv' : (k[i] == v) = false := by simp [hv]
      have hv2 : (v == k[i]) = false := by simp; exact fun e => hv e.symm
      rw [hv2] at hst
      simp -dsimp -implicitDefEqProofs [hi', hv', hw]
      exact .mk (i + 1) ⟨by omega, hst⟩ (by omega) (Sub.keep (by simp) (by simp [hsub]) (by simp [hw]))
  · have : i = k.length := by omega
    subst this
    rw [List.take_length] at hx
    simp -dsimp -implicitDefEqProofs [hx]

/-! ### the next list of different vertices -/
def freeF (K : List Int) : Nat → Int → Int
  | 0, w => w
  | f + 1, w => if inL K w = true then freeF K f (w + 1) else w
theorem freeF_le {K : List Int} {B : Int} (hB : ∀ x ∈ K, x ≤ B) : ∀ (f : Nat) (w : Int), w ≤ B + 1 → freeF K f w ≤ B + 1
  | 0, w, h => h
  | f + 1, w, h => by
    rw [freeF]
    split
    · rename_i hin
      have := hB w (inL_of hin)
      exact freeF_le hB f (w + 1) (by omega)
    · exact h
theorem freeF_ge {K : List Int} : ∀ (f : Nat) (w : Int), w ≤ freeF K f w
  | 0, w => Int.le_refl _
  | f + 1, w => by
    rw [freeF]
    split
    · have := freeF_ge (K := K) f (w + 1); omega
    · omega
def fillF (k : Nat) : Nat → List Int → List Int
  | 0, L => L
  | f + 1, L => fillF k f (L.set (k - (f + 1)) (freeF (L.take (k - (f + 1))) 12 0))
theorem fillF_len (k : Nat) : ∀ (f : Nat) (L : List Int), (fillF k f L).length = L.length
  | 0, L => rfl
  | f + 1, L => by rw [fillF, fillF_len k f]; simp
def tryF (n : Int) (L : List Int) (i : Nat) : Nat → Int → Option (List Int)
  | 0, v => none
  | f + 1, v => if v < n then (if inL (L.take i) v = true then tryF n L i f (v + 1) else some (fillF L.length (L.length - (i + 1)) (L.set i v))) else none
def nextF (n : Int) (L : List Int) : Nat → List Int × Bool
  | 0 => (L, false)
  | i + 1 => match tryF n L i 6 (L.getD i 0 + 1) with
    | some L' => (L', true)
    | none => nextF n L i
theorem tryF_len {n : Int} {L : List Int} {i : Nat} : ∀ {f : Nat} {v : Int} {L' : List Int}, tryF n L i f v = some L' → L'.length = L.length
  | 0, v, L', h => by cases h
  | f + 1, v, L', h => by
    rw [tryF] at h
    split at h
    · split at h
      · exact tryF_len h
      · obtain rfl := Option.some.inj h
        rw [fillF_len]; simp
    · cases h
theorem nextF_len (n : Int) (L : List Int) : ∀ i, (nextF n L i).1.length = L.length
  | 0 => rfl
  | i + 1 => by
    rw [nextF]
    split
    · rename_i h; exact tryF_len h
    · exact nextF_len n L i
theorem gath_take (L : List Int) (j : Nat) (hj : j ≤ L.length) : gath 1 j (flatA (mapA inA L)) = mapA inA (L.take j) := by
  have h1 : flatA (mapA inA L) = flatA (mapA inA (L.take j)) ++ flatA (mapA inA (L.drop j)) := by rw [← flatA_append, List.take_append_drop]
  rw [h1]
  have key : ∀ (A : List Int) (r : List AV), gath 1 A.length (flatA (mapA inA A) ++ r) = mapA inA A := by
    intro A
    induction A with
    | nil => intro r; rfl
    | cons x A ih =>
      intro r
      rw [flatA_cons]
      show elemA 1 _ :: gath 1 A.length _ = _
      have := ih r
      simp only [List.cons_append, List.nil_append, AV.cells, List.drop_succ_cons, List.drop_zero]
      rw [this]; rfl
  have := key (L.take j) (flatA (mapA inA (L.drop j)))
  rw [List.length_take, Nat.min_eq_left hj] at this
  exact this
noncomputable def sp_nextP : List (Option (List AV)) → List AV → Option (AV × List (Option (List AV))) := pv (pf (ι := (Nat) × (List Int) × (Cp)) (α := AV × List (Option (List AV))) (fun ⟨n, L, t⟩ => n ≤ 5 ∧ L.length ≤ 5 ∧ (∀ x ∈ L, 0 ≤ x ∧ x ≤ 5)) (fun i => .agg (((fun ⟨n, L, t⟩ => [some (flatA (insA L))] : (Nat) × (List Int) × (Cp) → List (Option (List AV))) i).map enO) :: (fun ⟨n, L, t⟩ => [.ref 0 1 0 L.length t, .int .i64 n] : (Nat) × (List Int) × (Cp) → List AV) i) (fun ⟨n, L, t⟩ => (.bool (nextF n L L.length).2, [some (flatA (insA (nextF n L L.length).1))])))
theorem sp_nextP_eq (n : Nat) (L : List Int) (t : Cp) (h : n ≤ 5 ∧ L.length ≤ 5 ∧ (∀ x ∈ L, 0 ≤ x ∧ x ≤ 5)) : sp_nextP [some (flatA (insA L))] [.ref 0 1 0 L.length t, .int .i64 n] = some (.bool (nextF n L L.length).2, [some (flatA (insA (nextF n L L.length).1))]) := by
  unfold sp_nextP pv
  exact pf_eq (ι := (Nat) × (List Int) × (Cp)) (α := AV × List (Option (List AV))) (n, L, t) h (by rintro ⟨n', L', t'⟩ _ e; simp_all [enO, Int.natCast_inj])
set_option maxHeartbeats 1000000 in
theorem v_spec_l01Next : QV PP 136 sp_nextP := by
  refine QV_pf fun i h => ?_
  obtain ⟨n, L, t⟩ := i
  replace h : n ≤ 5 ∧ L.length ≤ 5 ∧ (∀ x ∈ L, 0 ≤ x ∧ x ≤ 5) := h
  refine H_code (Quiet.e1 q_spec_l01Among.toR Quiet.nil) hmix k_spec_l01Next rfl (fun b => b) (by simp [AHeap.n]) (fun _ _ => rfl) (by rfl) (by first | rfl | simp) ?_
  show wpc _ PP _ c_spec_l01Next (initSt [.ref 0 1 0 L.length t, .int .i64 n] ⟨[some (flatA (insA L))]⟩) (endH (fun b => b) r_spec_l01Next (.bool (nextF n L L.length).2) [some (flatA (insA (nextF n L L.length).1))])
  obtain ⟨hn, hl, hL⟩ := h
  have w0 : IntKind.i64.wrap ((L.length : Int) - 1) = (L.length : Int) - 1 := wrapI64 (by omega) (by omega)
  simp -dsimp -implicitDefEqProofs [c_spec_l01Next, r_spec_l01Next, w0]
  refine wpLoop_st (fun (i : Nat) => ⟨tl [(0, .ref 0 1 0 L.length t), (1, .int .i64 n), (5, .int .i64 L.length), (6, .int .i64 ((i : Int) - 1))], ⟨[some (flatA (insA L))]⟩⟩) (fun i => i ≤ L.length ∧ nextF n L i = nextF n L L.length) (fun i => i) L.length ⟨Nat.le_refl _, rfl⟩ (Sub.keep (by simp) (by simp [hsub]) (by simp)) ?_
  rintro i ⟨h1, h4⟩
  simp -dsimp -implicitDefEqProofs
  refine brW_of (fun h => ?_) (fun h => ?_) <;> simp only [decide_eq_true_eq, decide_eq_false_iff_not] at h
  · obtain ⟨j, rfl⟩ : ∃ j, i = j + 1 := ⟨i - 1, by omega⟩
    have hj : j < L.length := by omega
    have hjle : j ≤ L.length := by omega
    have hx := hL _ (List.getElem_mem hj)
    have hg : L.getD j 0 = L[j] := by simp [hj]
    have w1 : IntKind.i64.wrap (L[j] + 1) = L[j] + 1 := wrapI64 (by omega) (by omega)
    have w2 : IntKind.i64.wrap ((j : Int) - 1) = (j : Int) - 1 := wrapI64 (by omega) (by omega)
    have hji : ((j + 1 : Nat) : Int) - 1 = j := by omega
    rw [nextF, hg] at h4
    simp -dsimp -implicitDefEqProofs [hj, w1]
    refine wpLoop_st (fun (f : Nat) => ⟨tl [(0, .ref 0 1 0 L.length t), (1, .int .i64 n), (5, .int .i64 L.length), (6, .int .i64 j), (7, .int .i64 (L[j] + 1 + (6 - (f : Int))))], ⟨[some (flatA (insA L))]⟩⟩) (fun f => f ≤ 6 ∧ tryF n L j f (L[j] + 1 + (6 - (f : Int))) = tryF n L j 6 (L[j] + 1)) (fun f => f) 6 ⟨by omega, by simp⟩ (Sub.keep (by simp) (by simp [hsub]) (by simp)) ?_
    rintro f ⟨f6, hf⟩
    simp -dsimp -implicitDefEqProofs
    refine brW_of (fun h => ?_) (fun h => ?_) <;> simp only [decide_eq_true_eq, decide_eq_false_iff_not] at h
    · obtain ⟨g, rfl⟩ : ∃ g, f = g + 1 := ⟨f - 1, by omega⟩
      rw [tryF, if_pos h] at hf
      have hv5 : L[j] + 1 + (6 - ((g + 1 : Nat) : Int)) ≤ 4 := by omega
      have hv0 : 0 ≤ L[j] + 1 + (6 - ((g + 1 : Nat) : Int)) := by omega
      have hnx : L[j] + 1 + (6 - (g : Int)) = L[j] + 1 + (6 - ((g + 1 : Nat) : Int)) + 1 := by omega
      generalize L[j] + 1 + (6 - ((g + 1 : Nat) : Int)) = v at hf hv5 hv0 hnx h ⊢
      have hgt := gath_take L j hjle
      have hct := sp_containsI_eq (L.take j) v (by simp; omega)
      have wv : IntKind.i64.wrap (v + 1) = v + 1 := wrapI64 (by omega) (by omega)
      cases hin : inL (L.take j) v with
      | true =>
        rw [hin, if_pos rfl] at hf
        rw [hin] at hct
        simp -dsimp -implicitDefEqProofs [hjle, hgt, hct, wv]
        refine .mk g ⟨by omega, by rw [hnx]; exact hf⟩ (by omega) (Sub.keep (by simp) (by simp [hsub]) (by simp [wv, hnx]))
      | false =>
        rw [hin] at hf hct
        simp only [Bool.false_eq_true, if_false] at hf
        rw [← hf] at h4
        simp only at h4
        have hj1 : j + 1 ≤ L.length := hj
        have hs1 := set_in L j v hj
        have wj := wrapNat (i := j) (by omega)
        simp -dsimp -implicitDefEqProofs [hjle, hgt, hct, hj, hj1, hs1, wj]
        refine wpLoop_st (fun (q : Nat × List Int) => ⟨tl [(0, .ref 0 1 0 L.length t), (5, .int .i64 L.length), (8, .int .i64 q.1)], ⟨[some (flatA (insA q.2))]⟩⟩) (fun q => j + 1 ≤ q.1 ∧ q.1 ≤ L.length ∧ q.2.length = L.length ∧ (∀ x ∈ q.2, x ≤ 5 + (q.1 : Int)) ∧ fillF L.length (L.length - q.1) q.2 = fillF L.length (L.length - (j + 1)) (L.set j v)) (fun q => L.length - q.1) (j + 1, L.set j v) ⟨by omega, by omega, by simp, fun x hx => ?_, rfl⟩ (Sub.keep (by simp) (by simp [hsub]) (by simp [wj])) ?_
        · rcases List.mem_or_eq_of_mem_set hx with hx | rfl
          · have := hL x hx; omega
          · omega
        · rintro ⟨m, M⟩ ⟨m1, m2, m3, m4, m5⟩
          simp only at m1 m2 m3 m4 m5
          simp -dsimp -implicitDefEqProofs
          refine brW_of (fun h => ?_) (fun h => ?_) <;> simp only [decide_eq_true_eq, decide_eq_false_iff_not] at h
          · have hm : m < L.length := by omega
            have hmM : m < M.length := by omega
            have hmle : m ≤ L.length := by omega
            have hmleM : m ≤ M.length := by omega
            have hm1 : m + 1 ≤ M.length := by omega
            have wm := wrapNat (i := m) (by omega)
            have hgtm := gath_take M m hmleM
            obtain ⟨f', hf'⟩ : ∃ f', L.length - m = f' + 1 := ⟨L.length - m - 1, by omega⟩
            rw [hf', fillF, show L.length - (f' + 1) = m by omega, show f' = L.length - (m + 1) by omega] at m5
            have hMt : ∀ x ∈ M.take m, x ≤ 5 + (m : Int) := fun x hx => m4 x (List.mem_of_mem_take hx)
            simp -dsimp -implicitDefEqProofs
            refine wpLoop_st (fun (g : Nat) => ⟨tl [(0, .ref 0 1 0 L.length t), (5, .int .i64 L.length), (8, .int .i64 m), (9, .int .i64 (12 - (g : Int)))], ⟨[some (flatA (insA M))]⟩⟩) (fun g => g ≤ 12 ∧ freeF (M.take m) g (12 - (g : Int)) = freeF (M.take m) 12 0) (fun g => g) 12 ⟨by omega, by simp⟩ (Sub.keep (by simp) (by simp [hsub]) (by simp)) ?_
            rintro g ⟨g12, hg2⟩
            have hctm := sp_containsI_eq (M.take m) (12 - (g : Int)) (by simp; omega)
            cases hin : inL (M.take m) (12 - (g : Int)) with
            | true =>
              rw [hin] at hctm
              have hle := hMt _ (inL_of hin)
              obtain ⟨g', rfl⟩ : ∃ g', g = g' + 1 := ⟨g - 1, by omega⟩
              rw [freeF, hin, if_pos rfl] at hg2
              have hnx : (12 : Int) - (g' : Int) = 12 - ((g' + 1 : Nat) : Int) + 1 := by omega
              have wg : IntKind.i64.wrap (12 - ((g' + 1 : Nat) : Int) + 1) = 12 - ((g' + 1 : Nat) : Int) + 1 := wrapI64 (by omega) (by omega)
              generalize (12 : Int) - ((g' + 1 : Nat) : Int) = w at *
              simp -dsimp -implicitDefEqProofs [hmle, hmleM, hgtm, hctm, wg]
              exact .mk g' ⟨by omega, by rw [hnx]; exact hg2⟩ (by omega) (Sub.keep (by simp) (by simp [hsub]) (by simp [hnx, wg]))
            | false =>
              rw [hin] at hctm
              have hfr : freeF (M.take m) 12 0 = 12 - (g : Int) := by
                rw [← hg2]
                cases g with
                | zero => rfl
                | succ g => rw [freeF, hin]; simp
              have hle := freeF_le (B := 5 + (m : Int)) hMt 12 0 (by omega)
              rw [hfr] at m5 hle
              generalize (12 : Int) - (g : Int) = w at *
              have hs2 := set_in M m w hmM
              simp -dsimp -implicitDefEqProofs [hmle, hmleM, hgtm, hctm, hm, hmM, hm1, hs2, wm]
              refine .mk (m + 1, M.set m w) ⟨by simp only; omega, by simp only; omega, by simp [m3], fun x hx => ?_, m5⟩ (by simp only; omega) (Sub.keep (by simp) (by simp [hsub]) (by simp [wm]))
              rcases List.mem_or_eq_of_mem_set hx with hx | rfl
              · have := m4 x hx; simp only; omega
              · simp only; omega
          · have : m = L.length := by omega
            subst this
            rw [Nat.sub_self, fillF] at m5
            rw [← m5] at h4
            simp -dsimp -implicitDefEqProofs [← h4, hsub]
    · have hn0 : tryF n L j 6 (L[j] + 1) = none := by
        rw [← hf]
        cases f with
        | zero => rfl
        | succ g => rw [tryF, if_neg h]
      rw [hn0] at h4
      simp only at h4
      simp -dsimp -implicitDefEqProofs [w2]
      exact .mk j ⟨by omega, h4⟩ (by omega) (Sub.keep (by simp) (by simp [hsub]) (by simp [w2]))
  · have hi : i = 0 := by omega
    subst hi
    rw [nextF] at h4
    simp -dsimp -implicitDefEqProofs [← h4, hsub]
def nextN (n : Int) (L : List Int) : Option (List Int) := if (nextF n L L.length).2 = true then some (nextF n L L.length).1 else none
/-- All lists of different vertices. -/
def permL (n m : Nat) : List (List Int) := dfsL newM n m []
theorem permL_chain : ∀ n : Nat, n ≤ 5 → ∀ m : Nat, m ≤ n → chainB (nextN n) (permL n m) = true := by
  have : ∀ n : Nat, n < 6 → ∀ m : Nat, m < n + 1 → chainB (nextN n) (permL n m) = true := by decide +kernel
  exact fun n h m h' => this n (by omega) m (by omega)
theorem permL_first : ∀ n : Nat, n ≤ 5 → ∀ m : Nat, m ≤ n → (permL n m)[0]? = some (upTo m) := by
  have : ∀ n : Nat, n < 6 → ∀ m : Nat, m < n + 1 → (permL n m)[0]? = some (upTo m) := by decide +kernel
  exact fun n h m h' => this n (by omega) m (by omega)
theorem dfs_nodup {k : Nat} : ∀ {d : Nat} {now l : List Int}, now.Nodup → l ∈ dfsL newM k d now → l.Nodup
  | 0, now, l, hn, h => by rw [dfsL, List.mem_singleton] at h; rw [h]; exact hn
  | d + 1, now, l, hn, h => by
    rw [dfsL, List.mem_flatMap] at h
    obtain ⟨x, hx0, hx⟩ := h
    split at hx
    · rename_i hf
      refine dfs_nodup (nodup_snoc hn ?_) hx
      unfold newM at hf
      simpa using hf
    · cases hx
theorem permL_dist {n m : Nat} (hn : n ≤ 5) (hm : m ≤ n) {L : List Int} (h : L ∈ permL n m) : distL L ∧ L.length = m ∧ ∀ x ∈ L, 0 ≤ x ∧ x < (n : Int) := by
  have h1 : L.length = m := by have := dfsL_len h; simpa using this
  have h2 : ∀ x ∈ L, 0 ≤ x ∧ x < (n : Int) := dfsL_range (fun x hx => by cases hx) h
  exact ⟨⟨dfs_nodup List.nodup_nil h, by omega, fun x hx => by have := h2 x hx; omega⟩, h1, h2⟩
end Go.Proofs.YtgophedkejgedaaGreatDoorAi
end

section
/- MADE BY PROGRAM (wip/tools/gen.py): the abstract code of functions. -/
namespace Go.Proofs.YtgophedkejgedaaGreatDoorAi
open Go AC AOp Opd
set_option linter.unusedVariables false
set_option maxRecDepth 100000
def c_strconv_FormatInt : AC := seq (reg [⟨(some 4), mv (c (.str ⟨#[]⟩)), none⟩]) (seq (reg [⟨(some 5), mv (t 0), none⟩, ⟨(some 6), mv (t 1), none⟩, ⟨(some 7), callq (c (.fn 129 [])) [t 5, t 6], none⟩, ⟨(some 4), mv (t 7), none⟩]) (ret))
def r_strconv_FormatInt : List ARes := [.tmp 4]
theorem k_strconv_FormatInt : acLin Go.Proofs.Tryz.prog 85 2 (inQ [129] []) [] = some (c_strconv_FormatInt, r_strconv_FormatInt) := by kernel_rfl
def c_spec_Decimal : AC := seq (reg [⟨(some 2), mv (c (.str ⟨#[]⟩)), none⟩]) (seq (seq (reg [⟨(some 3), mv (t 0), none⟩, ⟨(some 4), bin .geq (t 3) (c (.int .i64 10)), none⟩]) (cond (t 4) (seq (reg [⟨(some 5), mv (t 0), none⟩, ⟨(some 6), bin .quo (t 5) (c (.int .i64 10)), none⟩, ⟨(some 7), callq (c (.fn 77 [])) [t 6], none⟩, ⟨(some 8), mv (t 0), none⟩, ⟨(some 9), bin .rem (t 8) (c (.int .i64 10)), none⟩, ⟨(some 10), bin .add (c (.int .i64 48)) (t 9), none⟩, ⟨(some 11), conv .u8 (t 10), none⟩, ⟨(some 12), bsl 1 1 [.int .u8 0] [(0, t 11)], none⟩, ⟨(some 13), b2s (t 12), none⟩, ⟨(some 14), bin .add (t 7) (t 13), none⟩, ⟨(some 2), mv (t 14), none⟩]) (ret)) (skip))) (seq (reg [⟨(some 15), mv (t 0), none⟩, ⟨(some 16), bin .add (c (.int .i64 48)) (t 15), none⟩, ⟨(some 17), conv .u8 (t 16), none⟩, ⟨(some 18), bsl 1 1 [.int .u8 0] [(0, t 17)], none⟩, ⟨(some 19), b2s (t 18), none⟩, ⟨(some 2), mv (t 19), none⟩]) (ret)))
def r_spec_Decimal : List ARes := [.tmp 2]
theorem k_spec_Decimal : acLin Go.Proofs.Tryz.prog 77 1 (inQ [77] []) [⟨false, none, [], [], none⟩, ⟨false, none, [], [], none⟩, ⟨false, some [0, 1, 2, 3, 4, 5, 6, 7, 8, 9, 10], [], [], none⟩] = some (c_spec_Decimal, r_spec_Decimal) := by kernel_rfl
def c_impl_decimal : AC := seq (reg [⟨(some 2), mv (c (.str ⟨#[]⟩)), none⟩]) (seq (reg [⟨(some 3), mv (t 0), none⟩, ⟨(some 4), callq (c (.fn 85 [])) [t 3, c (.int .i64 10)], none⟩, ⟨(some 2), mv (t 4), none⟩]) (ret))
def r_impl_decimal : List ARes := [.tmp 2]
theorem k_impl_decimal : acLin Go.Proofs.Tryz.prog 38 1 (inQ [85] []) [] = some (c_impl_decimal, r_impl_decimal) := by kernel_rfl
def c_impl_Fraction_text : AC := seq (reg [⟨(some 1), box 2 (t 0), none⟩, ⟨(some 2), mv (c (.str ⟨#[]⟩)), none⟩]) (seq (seq (reg [⟨(some 3), fad (t 1) 1, none⟩, ⟨(some 4), ld (t 3) 1 false, none⟩, ⟨(some 5), bin .eql (t 4) (c (.int .i64 1)), none⟩]) (cond (t 5) (seq (reg [⟨(some 6), fad (t 1) 0, none⟩, ⟨(some 7), ld (t 6) 1 false, none⟩, ⟨(some 8), callq (c (.fn 38 [])) [t 7], none⟩, ⟨(some 2), mv (t 8), none⟩]) (ret)) (skip))) (seq (reg [⟨(some 9), fad (t 1) 0, none⟩, ⟨(some 10), ld (t 9) 1 false, none⟩, ⟨(some 11), callq (c (.fn 38 [])) [t 10], none⟩, ⟨(some 12), bin .add (t 11) (c (.str ⟨#[47]⟩)), none⟩, ⟨(some 13), fad (t 1) 1, none⟩, ⟨(some 14), ld (t 13) 1 false, none⟩, ⟨(some 15), callq (c (.fn 38 [])) [t 14], none⟩, ⟨(some 16), bin .add (t 12) (t 15), none⟩, ⟨(some 2), mv (t 16), none⟩]) (ret)))
def r_impl_Fraction_text : List ARes := [.tmp 2]
theorem k_impl_Fraction_text : acLin Go.Proofs.Tryz.prog 72 1 (inQ [38] []) [⟨false, none, [], [], none⟩, ⟨false, none, [], [], none⟩, ⟨false, none, [], [], none⟩, ⟨false, none, [], [], none⟩, ⟨false, some [0, 1, 2, 3, 4, 5, 6, 7, 8], [], [], none⟩] = some (c_impl_Fraction_text, r_impl_Fraction_text) := by kernel_rfl
def c_spec_FractionText : AC := seq (reg [⟨(some 1), box 2 (t 0), none⟩, ⟨(some 2), mv (c (.str ⟨#[]⟩)), none⟩]) (seq (seq (reg [⟨(some 4), ld (t 1) 2 true, none⟩, ⟨(some 5), callq (c (.fn 65 [])) [t 4], none⟩, ⟨(some 6), un .not (t 5), none⟩]) (cond (t 6) (seq (reg [⟨(some 2), mv (c (.str ⟨#[]⟩)), none⟩]) (ret)) (skip))) (seq (reg [⟨(some 7), fad (t 1) 0, none⟩, ⟨(some 8), ld (t 7) 1 false, none⟩, ⟨(some 9), callq (c (.fn 113 [])) [t 8], none⟩, ⟨(some 10), callq (c (.fn 77 [])) [t 9], none⟩, ⟨(some 3), mv (t 10), none⟩]) (seq (seq (reg [⟨(some 11), fad (t 1) 0, none⟩, ⟨(some 12), ld (t 11) 1 false, none⟩, ⟨(some 13), bin .lss (t 12) (c (.int .i64 0)), none⟩]) (cond (t 13) (reg [⟨(some 14), mv (t 3), none⟩, ⟨(some 15), bin .add (c (.str ⟨#[45]⟩)) (t 14), none⟩, ⟨(some 3), mv (t 15), none⟩]) (skip))) (seq (seq (reg [⟨(some 16), fad (t 1) 1, none⟩, ⟨(some 17), ld (t 16) 1 false, none⟩, ⟨(some 18), bin .neq (t 17) (c (.int .i64 1)), none⟩]) (cond (t 18) (reg [⟨(some 19), mv (t 3), none⟩, ⟨(some 20), fad (t 1) 1, none⟩, ⟨(some 21), ld (t 20) 1 false, none⟩, ⟨(some 22), callq (c (.fn 77 [])) [t 21], none⟩, ⟨(some 23), bin .add (c (.str ⟨#[47]⟩)) (t 22), none⟩, ⟨(some 24), bin .add (t 19) (t 23), none⟩, ⟨(some 3), mv (t 24), none⟩]) (skip))) (seq (reg [⟨(some 25), mv (t 3), none⟩, ⟨(some 2), mv (t 25), none⟩]) (ret))))))
def r_spec_FractionText : List ARes := [.tmp 2]
theorem k_spec_FractionText : acLin Go.Proofs.Tryz.prog 66 1 (inQ [65, 77, 113] []) [] = some (c_spec_FractionText, r_spec_FractionText) := by kernel_rfl
def c_impl_Graph_edges : AC := seq (reg [⟨(some 1), box 2 (t 0), none⟩, ⟨(some 2), mv (c (.sl [] true)), none⟩]) (seq (reg [⟨(some 6), bsl 2 0 [.int .i64 0, .int .i64 0] [], none⟩, ⟨(some 3), mv (t 6), none⟩]) (seq (seq (reg [⟨(some 7), fad (t 1) 0, none⟩, ⟨(some 8), ld (t 7) 1 false, none⟩, ⟨(some 9), mv (c (.int .i64 0)), none⟩]) (block 0 (loop (seq (reg [⟨(some 10), bin .lss (t 9) (t 8), none⟩]) (seq (cond (t 10) (skip) (exit 0)) (seq (block 1 (seq (reg [⟨(some 11), mv (t 9), none⟩, ⟨(some 4), mv (t 11), none⟩]) (seq (reg [⟨(some 12), mv (t 4), none⟩, ⟨(some 13), mv (c (.int .i64 0)), none⟩]) (block 2 (loop (seq (reg [⟨(some 14), bin .lss (t 13) (t 12), none⟩]) (seq (cond (t 14) (skip) (exit 2)) (seq (block 3 (seq (reg [⟨(some 15), mv (t 13), none⟩, ⟨(some 5), mv (t 15), none⟩]) (seq (reg [⟨(some 16), ld (t 1) 2 true, none⟩, ⟨(some 17), mv (t 5), none⟩, ⟨(some 18), mv (t 4), none⟩, ⟨(some 19), callq (c (.fn 157 [])) [t 16, t 17, t 18], none⟩]) (cond (t 19) (reg [⟨(some 20), mv (t 3), none⟩, ⟨(some 21), mv (t 5), none⟩, ⟨(some 22), mv (t 4), none⟩, ⟨(some 23), bld [.int .i64 0, .int .i64 0] [(0, 1, t 21), (1, 1, t 22)], none⟩, ⟨(some 24), bsl 2 1 [.int .i64 0, .int .i64 0] [(0, t 23)], none⟩, ⟨(some 25), app 2 16 (t 20) (t 24), none⟩, ⟨(some 3), mv (t 25), none⟩]) (skip))))) (reg [⟨(some 26), bin .add (t 13) (c (.int .i64 1)), none⟩, ⟨(some 13), mv (t 26), none⟩]))))))))) (reg [⟨(some 27), bin .add (t 9) (c (.int .i64 1)), none⟩, ⟨(some 9), mv (t 27), none⟩]))))))) (seq (reg [⟨(some 28), mv (t 3), none⟩, ⟨(some 2), mv (t 28), none⟩]) (ret))))
def r_impl_Graph_edges : List ARes := [.tmp 2]
theorem k_impl_Graph_edges : acLin Go.Proofs.Tryz.prog 119 1 (inQ [157] []) [] = some (c_impl_Graph_edges, r_impl_Graph_edges) := by kernel_rfl
def c_spec_l01Pairs : AC := seq (reg [⟨(some 1), box 2 (t 0), none⟩, ⟨(some 2), mv (c (.sl [] true)), none⟩]) (seq (reg [⟨(some 6), bsl 2 0 [.int .i64 0, .int .i64 0] [], none⟩, ⟨(some 3), mv (t 6), none⟩]) (seq (seq (reg [⟨(some 4), mv (c (.int .i64 1)), none⟩]) (block 0 (loop (seq (seq (reg [⟨(some 7), mv (t 4), none⟩, ⟨(some 8), fad (t 1) 0, none⟩, ⟨(some 9), ld (t 8) 1 false, none⟩, ⟨(some 10), bin .lss (t 7) (t 9), none⟩]) (cond (t 10) (skip) (exit 0))) (seq (block 1 (seq (reg [⟨(some 5), mv (c (.int .i64 0)), none⟩]) (block 2 (loop (seq (seq (reg [⟨(some 13), mv (t 5), none⟩, ⟨(some 14), mv (t 4), none⟩, ⟨(some 15), bin .lss (t 13) (t 14), none⟩]) (cond (t 15) (skip) (exit 2))) (seq (block 3 (seq (reg [⟨(some 18), ld (t 1) 2 true, none⟩, ⟨(some 19), mv (t 5), none⟩, ⟨(some 20), mv (t 4), none⟩, ⟨(some 21), callq (c (.fn 153 [])) [t 18, t 19, t 20], none⟩]) (cond (t 21) (reg [⟨(some 22), mv (t 3), none⟩, ⟨(some 23), mv (t 5), none⟩, ⟨(some 24), mv (t 4), none⟩, ⟨(some 25), bld [.int .i64 0, .int .i64 0] [(0, 1, t 23), (1, 1, t 24)], none⟩, ⟨(some 26), bsl 2 1 [.int .i64 0, .int .i64 0] [(0, t 25)], none⟩, ⟨(some 27), app 2 16 (t 22) (t 26), none⟩, ⟨(some 3), mv (t 27), none⟩]) (skip)))) (reg [⟨(some 16), mv (t 5), none⟩, ⟨(some 17), bin .add (t 16) (c (.int .i64 1)), none⟩, ⟨(some 5), mv (t 17), none⟩]))))))) (reg [⟨(some 11), mv (t 4), none⟩, ⟨(some 12), bin .add (t 11) (c (.int .i64 1)), none⟩, ⟨(some 4), mv (t 12), none⟩])))))) (seq (reg [⟨(some 28), mv (t 3), none⟩, ⟨(some 2), mv (t 28), none⟩]) (ret))))
def r_spec_l01Pairs : List ARes := [.tmp 2]
theorem k_spec_l01Pairs : acLin Go.Proofs.Tryz.prog 114 1 (inQ [153] []) [] = some (c_spec_l01Pairs, r_spec_l01Pairs) := by kernel_rfl
def c_impl_Graph_text : AC := seq (reg [⟨(some 1), box 2 (t 0), none⟩, ⟨(some 2), mv (c (.str ⟨#[]⟩)), none⟩]) (seq (reg [⟨(some 6), fad (t 1) 0, none⟩, ⟨(some 7), ld (t 6) 1 false, none⟩, ⟨(some 8), callq (c (.fn 38 [])) [t 7], none⟩, ⟨(some 9), bin .add (c (.str ⟨#[103, 114, 97, 112, 104, 32]⟩)) (t 8), none⟩, ⟨(some 3), mv (t 9), none⟩]) (seq (seq (reg [⟨(some 10), ld (t 1) 2 true, none⟩, ⟨(some 11), calle (c (.fn 119 [])) [t 10] [], none⟩, ⟨(some 12), len (t 11), none⟩, ⟨(some 13), mv (c (.int .i64 0)), none⟩]) (block 0 (loop (seq (reg [⟨(some 14), bin .lss (t 13) (t 12), none⟩]) (seq (cond (t 14) (skip) (exit 0)) (seq (block 1 (seq (reg [⟨(some 15), iad 2 (t 11) (t 13), none⟩, ⟨(some 16), ld (t 15) 2 true, none⟩, ⟨(some 5), alloc [.int .i64 0, .int .i64 0], none⟩, ⟨none, st (t 5) 2 (t 16), none⟩]) (reg [⟨(some 17), mv (t 3), none⟩, ⟨(some 18), fad (t 5) 0, none⟩, ⟨(some 19), ld (t 18) 1 false, none⟩, ⟨(some 20), callq (c (.fn 38 [])) [t 19], none⟩, ⟨(some 21), bin .add (c (.str ⟨#[32]⟩)) (t 20), none⟩, ⟨(some 22), bin .add (t 21) (c (.str ⟨#[45]⟩)), none⟩, ⟨(some 23), fad (t 5) 1, none⟩, ⟨(some 24), ld (t 23) 1 false, none⟩, ⟨(some 25), callq (c (.fn 38 [])) [t 24], none⟩, ⟨(some 26), bin .add (t 22) (t 25), none⟩, ⟨(some 27), bin .add (t 17) (t 26), none⟩, ⟨(some 3), mv (t 27), none⟩]))) (reg [⟨(some 28), bin .add (t 13) (c (.int .i64 1)), none⟩, ⟨(some 13), mv (t 28), none⟩]))))))) (seq (reg [⟨(some 29), mv (t 3), none⟩, ⟨(some 2), mv (t 29), none⟩]) (ret))))
def r_impl_Graph_text : List ARes := [.tmp 2]
theorem k_impl_Graph_text : acLin Go.Proofs.Tryz.prog 73 1 (inQ [38] [119]) [⟨false, none, [], [], none⟩, ⟨false, none, [], [], none⟩, ⟨false, none, [], [], none⟩, ⟨false, none, [], [], none⟩, ⟨false, none, [], [], none⟩, ⟨false, none, [], [], none⟩, ⟨false, some [0, 1, 2, 3, 4, 5, 6, 7, 8, 9, 10, 11], [], [], none⟩] = some (c_impl_Graph_text, r_impl_Graph_text) := by kernel_rfl
def c_spec_GraphText : AC := seq (reg [⟨(some 1), box 2 (t 0), none⟩, ⟨(some 2), mv (c (.str ⟨#[]⟩)), none⟩]) (seq (seq (reg [⟨(some 6), ld (t 1) 2 true, none⟩, ⟨(some 7), callq (c (.fn 91 [])) [t 6], none⟩, ⟨(some 8), un .not (t 7), none⟩]) (cond (t 8) (seq (reg [⟨(some 2), mv (c (.str ⟨#[]⟩)), none⟩]) (ret)) (skip))) (seq (reg [⟨(some 9), fad (t 1) 0, none⟩, ⟨(some 10), ld (t 9) 1 false, none⟩, ⟨(some 11), callq (c (.fn 77 [])) [t 10], none⟩, ⟨(some 12), bin .add (c (.str ⟨#[103, 114, 97, 112, 104, 32]⟩)) (t 11), none⟩, ⟨(some 3), mv (t 12), none⟩]) (seq (reg [⟨(some 13), ld (t 1) 2 true, none⟩, ⟨(some 14), calle (c (.fn 114 [])) [t 13] [], none⟩, ⟨(some 4), mv (t 14), none⟩]) (seq (seq (reg [⟨(some 5), mv (c (.int .i64 0)), none⟩]) (block 0 (loop (seq (seq (reg [⟨(some 15), mv (t 5), none⟩, ⟨(some 16), mv (t 4), none⟩, ⟨(some 17), len (t 16), none⟩, ⟨(some 18), bin .lss (t 15) (t 17), none⟩]) (cond (t 18) (skip) (exit 0))) (seq (block 1 (reg [⟨(some 21), mv (t 3), none⟩, ⟨(some 22), mv (t 4), none⟩, ⟨(some 23), mv (t 5), none⟩, ⟨(some 24), iad 2 (t 22) (t 23), none⟩, ⟨(some 25), fad (t 24) 0, none⟩, ⟨(some 26), ld (t 25) 1 false, none⟩, ⟨(some 27), callq (c (.fn 77 [])) [t 26], none⟩, ⟨(some 28), bin .add (c (.str ⟨#[32]⟩)) (t 27), none⟩, ⟨(some 29), bin .add (t 28) (c (.str ⟨#[45]⟩)), none⟩, ⟨(some 30), mv (t 4), none⟩, ⟨(some 31), mv (t 5), none⟩, ⟨(some 32), iad 2 (t 30) (t 31), none⟩, ⟨(some 33), fad (t 32) 1, none⟩, ⟨(some 34), ld (t 33) 1 false, none⟩, ⟨(some 35), callq (c (.fn 77 [])) [t 34], none⟩, ⟨(some 36), bin .add (t 29) (t 35), none⟩, ⟨(some 37), bin .add (t 21) (t 36), none⟩, ⟨(some 3), mv (t 37), none⟩])) (reg [⟨(some 19), mv (t 5), none⟩, ⟨(some 20), bin .add (t 19) (c (.int .i64 1)), none⟩, ⟨(some 5), mv (t 20), none⟩])))))) (seq (reg [⟨(some 38), mv (t 3), none⟩, ⟨(some 2), mv (t 38), none⟩]) (ret))))))
def r_spec_GraphText : List ARes := [.tmp 2]
theorem k_spec_GraphText : acLin Go.Proofs.Tryz.prog 67 1 (inQ [77, 91] [114]) [⟨false, none, [], [], none⟩, ⟨false, none, [], [], none⟩, ⟨false, none, [], [], none⟩, ⟨false, none, [], [], none⟩, ⟨false, none, [], [], none⟩, ⟨false, none, [], [], none⟩, ⟨false, none, [], [], none⟩, ⟨false, none, [], [], none⟩, ⟨false, none, [], [], none⟩, ⟨false, some [0, 1, 2, 3, 4, 5, 6, 7, 8, 9, 10, 11, 12, 13, 14, 15, 16, 17], [], [], none⟩] = some (c_spec_GraphText, r_spec_GraphText) := by kernel_rfl
def c_spec_l03Ok : AC := seq (reg [⟨(some 1), box 3 (t 0), none⟩, ⟨(some 2), mv (c (.bool false)), none⟩]) (seq (reg [⟨(some 3), fad (t 1) 1, none⟩, ⟨(some 4), ld (t 3) 2 true, none⟩, ⟨(some 5), callq (c (.fn 91 [])) [t 4], none⟩, ⟨(some 6), mv (t 5), none⟩, ⟨(some 7), fad (t 1) 0, some (6, true)⟩, ⟨(some 8), ld (t 7) 1 false, some (6, true)⟩, ⟨(some 9), callq (c (.fn 76 [])) [t 8, c (.int .i64 0), c (.int .i64 3)], some (6, true)⟩, ⟨(some 10), pick (t 6) (t 9) (c (.bool false)), none⟩, ⟨(some 11), mv (t 10), none⟩, ⟨(some 12), fad (t 1) 0, some (11, true)⟩, ⟨(some 13), ld (t 12) 1 false, some (11, true)⟩, ⟨(some 14), fad (t 1) 1, some (11, true)⟩, ⟨(some 15), fad (t 14) 0, some (11, true)⟩, ⟨(some 16), ld (t 15) 1 false, some (11, true)⟩, ⟨(some 17), bin .leq (t 13) (t 16), some (11, true)⟩, ⟨(some 18), pick (t 11) (t 17) (c (.bool false)), none⟩, ⟨(some 2), mv (t 18), none⟩]) (ret))
def r_spec_l03Ok : List ARes := [.tmp 2]
theorem k_spec_l03Ok : acLin Go.Proofs.Tryz.prog 93 1 (inQ [76, 91] []) [] = some (c_spec_l03Ok, r_spec_l03Ok) := by kernel_rfl
def c_impl_ValidFlag : AC := seq (reg [⟨(some 1), box 3 (t 0), none⟩, ⟨(some 2), mv (c (.bool false)), none⟩]) (seq (reg [⟨(some 3), fad (t 1) 1, none⟩, ⟨(some 4), ld (t 3) 2 true, none⟩, ⟨(some 5), callq (c (.fn 105 [])) [t 4], none⟩, ⟨(some 6), mv (t 5), none⟩, ⟨(some 7), fad (t 1) 0, some (6, true)⟩, ⟨(some 8), ld (t 7) 1 false, some (6, true)⟩, ⟨(some 9), callq (c (.fn 81 [])) [t 8, c (.int .i64 0), c (.int .i64 3)], some (6, true)⟩, ⟨(some 10), pick (t 6) (t 9) (c (.bool false)), none⟩, ⟨(some 11), mv (t 10), none⟩, ⟨(some 12), fad (t 1) 0, some (11, true)⟩, ⟨(some 13), ld (t 12) 1 false, some (11, true)⟩, ⟨(some 14), fad (t 1) 1, some (11, true)⟩, ⟨(some 15), fad (t 14) 0, some (11, true)⟩, ⟨(some 16), ld (t 15) 1 false, some (11, true)⟩, ⟨(some 17), bin .leq (t 13) (t 16), some (11, true)⟩, ⟨(some 18), pick (t 11) (t 17) (c (.bool false)), none⟩, ⟨(some 2), mv (t 18), none⟩]) (ret))
def r_impl_ValidFlag : List ARes := [.tmp 2]
theorem k_impl_ValidFlag : acLin Go.Proofs.Tryz.prog 107 1 (inQ [81, 105] []) [] = some (c_impl_ValidFlag, r_impl_ValidFlag) := by kernel_rfl
def c_impl_Flag_text : AC := seq (reg [⟨(some 1), box 3 (t 0), none⟩, ⟨(some 2), mv (c (.str ⟨#[]⟩)), none⟩]) (seq (reg [⟨(some 3), fad (t 1) 0, none⟩, ⟨(some 4), ld (t 3) 1 false, none⟩, ⟨(some 5), callq (c (.fn 38 [])) [t 4], none⟩, ⟨(some 6), bin .add (c (.str ⟨#[102, 108, 97, 103, 32]⟩)) (t 5), none⟩, ⟨(some 7), bin .add (t 6) (c (.str ⟨#[32]⟩)), none⟩, ⟨(some 8), fad (t 1) 1, none⟩, ⟨(some 9), ld (t 8) 2 true, none⟩, ⟨(some 10), callq (c (.fn 73 [])) [t 9], none⟩, ⟨(some 11), bin .add (t 7) (t 10), none⟩, ⟨(some 2), mv (t 11), none⟩]) (ret))
def r_impl_Flag_text : List ARes := [.tmp 2]
theorem k_impl_Flag_text : acLin Go.Proofs.Tryz.prog 39 1 (inQ [38, 73] []) [⟨false, none, [], [], none⟩, ⟨false, some [0, 1, 2, 3, 4, 5, 6, 7, 8, 9], [], [], none⟩] = some (c_impl_Flag_text, r_impl_Flag_text) := by kernel_rfl
def c_spec_FlagText : AC := seq (reg [⟨(some 1), box 3 (t 0), none⟩, ⟨(some 2), mv (c (.str ⟨#[]⟩)), none⟩]) (seq (seq (reg [⟨(some 3), ld (t 1) 3 true, none⟩, ⟨(some 4), callq (c (.fn 93 [])) [t 3], none⟩, ⟨(some 5), un .not (t 4), none⟩]) (cond (t 5) (seq (reg [⟨(some 2), mv (c (.str ⟨#[]⟩)), none⟩]) (ret)) (skip))) (seq (reg [⟨(some 6), fad (t 1) 0, none⟩, ⟨(some 7), ld (t 6) 1 false, none⟩, ⟨(some 8), callq (c (.fn 77 [])) [t 7], none⟩, ⟨(some 9), bin .add (c (.str ⟨#[102, 108, 97, 103, 32]⟩)) (t 8), none⟩, ⟨(some 10), bin .add (t 9) (c (.str ⟨#[32]⟩)), none⟩, ⟨(some 11), fad (t 1) 1, none⟩, ⟨(some 12), ld (t 11) 2 true, none⟩, ⟨(some 13), callq (c (.fn 67 [])) [t 12], none⟩, ⟨(some 14), bin .add (t 10) (t 13), none⟩, ⟨(some 2), mv (t 14), none⟩]) (ret)))
def r_spec_FlagText : List ARes := [.tmp 2]
theorem k_spec_FlagText : acLin Go.Proofs.Tryz.prog 78 1 (inQ [67, 77, 93] []) [⟨false, none, [], [], none⟩, ⟨false, none, [], [], none⟩, ⟨false, none, [], [], none⟩, ⟨false, none, [], [], none⟩, ⟨false, some [0, 1, 2, 3, 4, 5, 6, 7, 8, 9], [], [], none⟩] = some (c_spec_FlagText, r_spec_FlagText) := by kernel_rfl
def c_laws_toFlag : AC := seq (reg [⟨(some 1), box 3 (t 0), none⟩, ⟨(some 2), alloc [.int .i64 0, .int .i64 0, .int .u32 0], none⟩]) (seq (reg [⟨(some 3), alloc [.int .i64 0, .int .i64 0, .int .u32 0], none⟩]) (seq (reg [⟨(some 4), fad (t 1) 0, none⟩, ⟨(some 5), ld (t 4) 1 false, none⟩, ⟨(some 6), fad (t 3) 0, none⟩, ⟨none, st (t 6) 1 (t 5), none⟩]) (seq (reg [⟨(some 7), fad (t 1) 1, none⟩, ⟨(some 8), ld (t 7) 2 true, none⟩, ⟨(some 9), callq (c (.fn 68 [])) [t 8], none⟩, ⟨(some 10), fad (t 3) 1, none⟩, ⟨none, st (t 10) 2 (t 9), none⟩]) (seq (reg [⟨(some 11), ld (t 3) 3 true, none⟩, ⟨none, st (t 2) 3 (t 11), none⟩]) (ret)))))
def r_laws_toFlag : List ARes := [.cell 2 3 true]
theorem k_laws_toFlag : acLin Go.Proofs.Tryz.prog 154 1 (inQ [68] []) [] = some (c_laws_toFlag, r_laws_toFlag) := by kernel_rfl
end Go.Proofs.YtgophedkejgedaaGreatDoorAi
end

section
/- Contracts: the pairs of a graph. -/
namespace Go.Proofs.YtgophedkejgedaaGreatDoorAi
open Go Go.RowKit
set_option linter.unusedVariables false
set_option linter.unusedSimpArgs false
set_option maxRecDepth 20000

def prE (e : Int) (j k : Nat) : List Fr := ((List.range k).filter fun (i : Nat) => hasB e i j).map fun (i : Nat) => ⟨(i : Int), (j : Int)⟩
theorem prE_zero (e : Int) (j : Nat) : prE e j 0 = [] := rfl
theorem prE_true {e : Int} {j k : Nat} (h : hasB e k j = true) : prE e j (k + 1) = prE e j k ++ [⟨(k : Int), (j : Int)⟩] := by
  unfold prE; rw [List.range_succ, List.filter_append, List.map_append]; simp [h]
theorem prE_false {e : Int} {j k : Nat} (h : hasB e k j = false) : prE e j (k + 1) = prE e j k := by
  unfold prE; rw [List.range_succ, List.filter_append, List.map_append]; simp [h]
def pairsE (e : Int) : Nat → List Fr
  | 0 => []
  | j + 1 => pairsE e j ++ prE e j j
theorem prE_len (e : Int) (j k : Nat) : (prE e j k).length ≤ k := by
  unfold prE; rw [List.length_map]; exact Nat.le_trans (List.length_filter_le _ _) (by simp)
theorem pairsE_len (e : Int) : ∀ j, (pairsE e j).length ≤ j * j
  | 0 => Nat.le_refl _
  | j + 1 => by
    have h1 := pairsE_len e j
    have h2 := prE_len e j j
    have h3 : (j + 1) * (j + 1) = j * j + j + j + 1 := by rw [Nat.add_mul, Nat.mul_add]; omega
    rw [pairsE, List.length_append, h3]; omega
def lvE (N : Nat) (L : List Fr) : AV := if L = [] then .sl [] true else .ref N 2 0 L.length .full
def obE (L : List Fr) : List (Option (List AV)) := if L = [] then [] else [some (flatA (frsA L))]
theorem lvE_nil (N : Nat) : lvE N [] = .sl [] true := rfl
theorem obE_nil : obE [] = [] := rfl
theorem lvE_cons {N : Nat} {L : List Fr} (h : L ≠ []) : lvE N L = .ref N 2 0 L.length .full := if_neg h
theorem obE_cons {L : List Fr} (h : L ≠ []) : obE L = [some (flatA (frsA L))] := if_neg h
theorem frE_snoc (L : List Fr) (p q : Int) : flatA (frsA L) ++ [.int .i64 p, .int .i64 q] = flatA (frsA (L ++ [⟨p, q⟩])) := by
  rw [flatA_append]; rfl
theorem obE_inj (f : Nat → Nat) (L : List Fr) : injB f (obE L).length = true := by
  by_cases hL : L = []
  · rw [hL]; rfl
  · rw [obE_cons hL]; rfl
theorem lvE_lt (N : Nat) (L : List Fr) : AV.lt ((obE L).length + N) (lvE N L) = true := by
  by_cases hL : L = []
  · rw [hL, lvE_nil]; rfl
  · rw [obE_cons hL, lvE_cons hL]; simp
theorem lvE_lt0 (L : List Fr) : AV.lt (obE L).length (lvE 0 L) = true := lvE_lt 0 L
def pairsR (e : Int) (n : Nat) : AV × List (Option (List AV)) := (lvE 0 (pairsE e n), obE (pairsE e n))
noncomputable def sp_edges : List AV → Option (AV × List (Option (List AV))) := pf (ι := (Nat) × (Int)) (α := AV × List (Option (List AV))) (fun ⟨n, e⟩ => n ≤ 5 ∧ 0 ≤ e ∧ e ≤ 4294967295) (fun ⟨n, e⟩ => [.agg [.int .i64 n, .int .u32 e]]) (fun ⟨n, e⟩ => pairsR e n)
theorem sp_edges_eq (n : Nat) (e : Int) (h : n ≤ 5 ∧ 0 ≤ e ∧ e ≤ 4294967295) : sp_edges [.agg [.int .i64 n, .int .u32 e]] = some (pairsR e n) := by
  unfold sp_edges
  exact pf_eq (ι := (Nat) × (Int)) (α := AV × List (Option (List AV))) (n, e) h (by rintro ⟨n', e'⟩ _ e; simp_all [Int.natCast_inj])
def eoSt (n : Nat) (e : Int) (j : Nat) : St := ⟨tl [(1, .ptr 0 0), (3, lvE 1 (pairsE e j)), (8, .int .i64 n), (9, .int .i64 j)], ⟨some [.int .i64 n, .int .u32 e] :: obE (pairsE e j)⟩⟩
def eiSt (n : Nat) (e : Int) (j : Nat) (i : Nat) : St := ⟨tl [(1, .ptr 0 0), (3, lvE 1 (pairsE e j ++ prE e j i)), (4, .int .i64 j), (8, .int .i64 n), (9, .int .i64 j), (12, .int .i64 j), (13, .int .i64 i)], ⟨some [.int .i64 n, .int .u32 e] :: obE (pairsE e j ++ prE e j i)⟩⟩
theorem n_impl_Graph_edges : QN PP 119 sp_edges := by
  refine QN_pf (fun i h => ?_) fun i h => ?_
  · obtain ⟨n, e⟩ := i; first | rfl | simp
  obtain ⟨n, e⟩ := i
  replace h : n ≤ 5 ∧ 0 ≤ e ∧ e ≤ 4294967295 := h
  show T PP 119 [.agg [.int .i64 n, .int .u32 e]] .nil fun r' A' => r' = ((pairsR e n : AV × List (Option (List AV)))).1 ∧ A' = ⟨((pairsR e n : AV × List (Option (List AV)))).2⟩
  unfold pairsR
  refine H_code (Quiet.q1 q_impl_Graph_has Quiet.nil) hmix k_impl_Graph_edges rfl (fun _ => 1) (by simp [AHeap.n, AHeap.nil]) (by intro b hb; simp [AHeap.n, AHeap.nil] at hb <;> subst hb <;> rfl) (obE_inj _ _) (lvE_lt0 _) ?_
  simp -dsimp -implicitDefEqProofs [c_impl_Graph_edges, r_impl_Graph_edges]
  refine wpLoop_st (eoSt n e) (fun j => j ≤ n) (fun j => n - j) 0 (by omega) (Sub.keep (by simp [eoSt]) (by simp [hsub, eoSt, pairsE, obE_nil]) (by simp [eoSt, pairsE, lvE_nil])) ?_
  intro j hj
  simp -dsimp -implicitDefEqProofs [eoSt]
  refine brW_of (fun h => ?_) (fun h => ?_) <;> simp only [decide_eq_true_eq, decide_eq_false_iff_not] at h
  · have hwx := wrapNat (i := j) (by omega)
    have hul := pairsE_len e j
    have hjj : j * j ≤ 16 := Nat.mul_le_mul (by omega : j ≤ 4) (by omega : j ≤ 4)
    simp -dsimp -implicitDefEqProofs
    refine wpLoop_st (eiSt n e j) (fun i => i ≤ j) (fun i => j - i) 0 (by omega) (Sub.keep (by simp [eiSt, prE_zero]) (by by_cases hL : pairsE e j = [] <;> simp [hsub, eiSt, prE_zero, hL, obE_nil, obE_cons]) (by simp [eiSt, prE_zero, lvE_lt])) ?_
    intro i hi
    have hrl := prE_len e j i
    simp -dsimp -implicitDefEqProofs [eiSt]
    refine brW_of (fun h2 => ?_) (fun h2 => ?_) <;> simp only [decide_eq_true_eq, decide_eq_false_iff_not] at h2
    · have hwi := wrapNat (i := i) (by omega)
      have hb := sp_has_eq n e i j ⟨⟨by omega, by omega⟩, by unfold vx; omega⟩
      cases hv : hasB e i j with
      | true =>
        have e1 := prE_true (e := e) (j := j) (k := i) hv
        have e2 := frE_snoc (pairsE e j ++ prE e j i) i j
        have e4 : pairsE e j ++ prE e j (i + 1) = (pairsE e j ++ prE e j i) ++ [⟨(i : Int), (j : Int)⟩] := by rw [e1, List.append_assoc]
        have hLl : (pairsE e j ++ prE e j i).length ≤ 20 := by rw [List.length_append]; omega
        rw [hv] at hb
        by_cases hL : pairsE e j ++ prE e j i = []
        · rw [hL] at e4
          have l1 : 1 * 17 ≤ mostBytes := by decide
          rw [hL]
          simp -dsimp -implicitDefEqProofs [hb, hwi, lvE_nil, obE_nil, l1]
          exact .mk (i + 1) (by omega) (by omega) (Sub.mk' (fun b => if b = 1 then 2 else b) (by simp) (by intro b hb; simp at hb <;> omega) (by show injB _ (some _ :: obE (pairsE e j ++ prE e j (i + 1))).length = true; rw [e4, obE_cons (by simp)]; rfl) (by simp [hsub, eiSt, e4, obE, flatA_cons]) (by simp [eiSt, e4, lvE, obE, hwi]))
        · generalize hL2 : pairsE e j ++ prE e j (i + 1) = L2 at *
          generalize pairsE e j ++ prE e j i = L at *
          have l1 : (L.length + 1) * 17 ≤ mostBytes := by simp only [mostBytes]; omega
          have l2 : ¬ ((L.length + 1) * 2 ≤ L.length * 2) := by omega
          have l3 : (flatA (frsA L)).take (L.length * 2) = flatA (frsA L) := List.take_of_length_le (by simp)
          have e5 : L2 ≠ [] := by rw [e4]; simp
          simp -dsimp -implicitDefEqProofs [hb, hwi, l1, l2, l3, e2, lvE_cons hL, obE_cons hL]
          exact .mk (i + 1) (by omega) (by omega) (Sub.mk' (fun b => if b = 1 then 3 else b) (by simp) (by intro b hb; simp at hb <;> omega) (by show injB _ (some _ :: obE (pairsE e j ++ prE e j (i + 1))).length = true; rw [hL2, obE_cons e5]; rfl) (by simp [hsub, eiSt, hL2, e4, obE_cons]) (by simp [eiSt, hL2, e4, lvE_cons, obE_cons, hwi]))
      | false =>
        have e1 := prE_false (e := e) (j := j) (k := i) hv
        rw [hv] at hb
        simp -dsimp -implicitDefEqProofs [hb, hwi]
        exact .mk (i + 1) (by omega) (by omega) (Sub.keep (by simp [eiSt]) (by by_cases hL : pairsE e j ++ prE e j i = [] <;> simp [hsub, eiSt, e1, hL, obE_nil, obE_cons]) (by simp [eiSt, e1, hwi, lvE_lt]))
    · obtain rfl : i = j := by omega
      simp -dsimp -implicitDefEqProofs [hwx]
      exact .mk (i + 1) (by omega) (by omega) (Sub.keep (by simp [eoSt]) (by by_cases hL : pairsE e i ++ prE e i i = [] <;> simp [hsub, eoSt, pairsE, hL, obE_nil, obE_cons]) (by simp [eoSt, pairsE, hwx, lvE_lt]))
  · obtain rfl : j = n := by omega
    by_cases hL : pairsE e j = []
    · simp -dsimp -implicitDefEqProofs [hsub, hL, lvE_nil, obE_nil]
    · simp -dsimp -implicitDefEqProofs [hsub, lvE_cons hL, obE_cons hL]
def soSt (n : Nat) (e : Int) (j : Nat) : St := ⟨tl [(1, .ptr 0 0), (3, lvE 1 (pairsE e (j + 1))), (4, .int .i64 ((j : Int) + 1))], ⟨some [.int .i64 n, .int .u32 e] :: obE (pairsE e (j + 1))⟩⟩
def siSt (n : Nat) (e : Int) (j : Nat) (i : Nat) : St := ⟨tl [(1, .ptr 0 0), (3, lvE 1 (pairsE e (j + 1) ++ prE e (j + 1) i)), (4, .int .i64 ((j : Int) + 1)), (5, .int .i64 i)], ⟨some [.int .i64 n, .int .u32 e] :: obE (pairsE e (j + 1) ++ prE e (j + 1) i)⟩⟩
theorem n_spec_l01Pairs : QN PP 114 sp_edges := by
  refine QN_pf (fun i h => ?_) fun i h => ?_
  · obtain ⟨n, e⟩ := i; first | rfl | simp
  obtain ⟨n, e⟩ := i
  replace h : n ≤ 5 ∧ 0 ≤ e ∧ e ≤ 4294967295 := h
  show T PP 114 [.agg [.int .i64 n, .int .u32 e]] .nil fun r' A' => r' = ((pairsR e n : AV × List (Option (List AV)))).1 ∧ A' = ⟨((pairsR e n : AV × List (Option (List AV)))).2⟩
  unfold pairsR
  refine H_code (Quiet.q1 q_spec_l01Joined Quiet.nil) hmix k_spec_l01Pairs rfl (fun _ => 1) (by simp [AHeap.n, AHeap.nil]) (by intro b hb; simp [AHeap.n, AHeap.nil] at hb <;> subst hb <;> rfl) (obE_inj _ _) (lvE_lt0 _) ?_
  have p1 : pairsE e 1 = [] := rfl
  simp -dsimp -implicitDefEqProofs [c_spec_l01Pairs, r_spec_l01Pairs]
  refine wpLoop_st (soSt n e) (fun j => j = 0 ∨ j + 1 ≤ n) (fun j => n - j) 0 (.inl rfl) (Sub.keep (by simp [soSt]) (by simp [hsub, soSt, p1, obE_nil]) (by simp [soSt, p1, lvE_nil])) ?_
  intro j hj
  simp -dsimp -implicitDefEqProofs [soSt]
  refine brW_of (fun h => ?_) (fun h => ?_) <;> simp only [decide_eq_true_eq, decide_eq_false_iff_not] at h
  · have hwx : IntKind.wrap .i64 ((j : Int) + 1 + 1) = (j : Int) + 1 + 1 := wrapI64 (by omega) (by omega)
    have hul := pairsE_len e (j + 1)
    have hjj : (j + 1) * (j + 1) ≤ 16 := Nat.mul_le_mul (by omega : j + 1 ≤ 4) (by omega : j + 1 ≤ 4)
    simp -dsimp -implicitDefEqProofs
    refine wpLoop_st (siSt n e j) (fun i => i ≤ j + 1) (fun i => j + 1 - i) 0 (by omega) (Sub.keep (by simp [siSt, prE_zero]) (by by_cases hL : pairsE e (j + 1) = [] <;> simp [hsub, siSt, prE_zero, hL, obE_nil, obE_cons]) (by simp [siSt, prE_zero, lvE_lt])) ?_
    intro i hi
    have hrl := prE_len e (j + 1) i
    simp -dsimp -implicitDefEqProofs [siSt]
    refine brW_of (fun h2 => ?_) (fun h2 => ?_) <;> simp only [decide_eq_true_eq, decide_eq_false_iff_not] at h2
    · have hwi := wrapNat (i := i) (by omega)
      have hb := sp_l01Joined_eq n e i ((j : Int) + 1) ⟨⟨by omega, by omega⟩, ⟨by omega, by omega⟩, by omega, by omega⟩
      have hne : decide ((i : Int) ≠ (j : Int) + 1) = true := decide_eq_true (by omega)
      cases hv : hasB e i ((j + 1 : Nat) : Int) with
      | true =>
        have hv' : joinedB e i ((j : Int) + 1) = true := by unfold joinedB; rw [hne]; exact hv
        have e1 := prE_true (e := e) (j := j + 1) (k := i) hv
        have e2 := frE_snoc (pairsE e (j + 1) ++ prE e (j + 1) i) i ((j : Int) + 1)
        have e4 : pairsE e (j + 1) ++ prE e (j + 1) (i + 1) = (pairsE e (j + 1) ++ prE e (j + 1) i) ++ [⟨(i : Int), (j : Int) + 1⟩] := by rw [e1, List.append_assoc]; rfl
        have hLl : (pairsE e (j + 1) ++ prE e (j + 1) i).length ≤ 20 := by rw [List.length_append]; omega
        rw [hv'] at hb
        by_cases hL : pairsE e (j + 1) ++ prE e (j + 1) i = []
        · rw [hL] at e4
          have l1 : 1 * 17 ≤ mostBytes := by decide
          rw [hL]
          simp -dsimp -implicitDefEqProofs [hb, hwi, lvE_nil, obE_nil, l1]
          exact .mk (i + 1) (by omega) (by omega) (Sub.mk' (fun b => if b = 1 then 2 else b) (by simp) (by intro b hb; simp at hb <;> omega) (by show injB _ (some _ :: obE (pairsE e (j + 1) ++ prE e (j + 1) (i + 1))).length = true; rw [e4, obE_cons (by simp)]; rfl) (by simp [hsub, siSt, e4, obE, flatA_cons]) (by simp [siSt, e4, lvE, obE, hwi]))
        · generalize hL2 : pairsE e (j + 1) ++ prE e (j + 1) (i + 1) = L2 at *
          generalize pairsE e (j + 1) ++ prE e (j + 1) i = L at *
          have l1 : (L.length + 1) * 17 ≤ mostBytes := by simp only [mostBytes]; omega
          have l2 : ¬ ((L.length + 1) * 2 ≤ L.length * 2) := by omega
          have l3 : (flatA (frsA L)).take (L.length * 2) = flatA (frsA L) := List.take_of_length_le (by simp)
          have e5 : L2 ≠ [] := by rw [e4]; simp
          simp -dsimp -implicitDefEqProofs [hb, hwi, l1, l2, l3, e2, lvE_cons hL, obE_cons hL]
          exact .mk (i + 1) (by omega) (by omega) (Sub.mk' (fun b => if b = 1 then 3 else b) (by simp) (by intro b hb; simp at hb <;> omega) (by show injB _ (some _ :: obE (pairsE e (j + 1) ++ prE e (j + 1) (i + 1))).length = true; rw [hL2, obE_cons e5]; rfl) (by simp [hsub, siSt, hL2, e4, obE_cons]) (by simp [siSt, hL2, e4, lvE_cons, obE_cons, hwi]))
      | false =>
        have hv' : joinedB e i ((j : Int) + 1) = false := by unfold joinedB; rw [hne]; exact hv
        have e1 := prE_false (e := e) (j := j + 1) (k := i) hv
        rw [hv'] at hb
        simp -dsimp -implicitDefEqProofs [hb, hwi]
        exact .mk (i + 1) (by omega) (by omega) (Sub.keep (by simp [siSt]) (by by_cases hL : pairsE e (j + 1) ++ prE e (j + 1) i = [] <;> simp [hsub, siSt, e1, hL, obE_nil, obE_cons]) (by simp [siSt, e1, hwi, lvE_lt]))
    · obtain rfl : i = j + 1 := by omega
      have e6 : pairsE e (j + 1) ++ prE e (j + 1) (j + 1) = pairsE e (j + 1 + 1) := rfl
      rw [e6]
      simp -dsimp -implicitDefEqProofs [hwx]
      exact .mk (j + 1) (by omega) (by omega) (Sub.keep (by simp [soSt]) (by by_cases hL : pairsE e (j + 1 + 1) = [] <;> simp [hsub, soSt, hL, obE_nil, obE_cons]) (by simp [soSt, hwx, lvE_lt]))
  · have e7 : pairsE e (j + 1) = pairsE e n := by
      rcases hj with rfl | hj
      · have : n = 0 ∨ n = 1 := by omega
        rcases this with rfl | rfl <;> rfl
      · rw [show j + 1 = n by omega]
    rw [e7]
    by_cases hL : pairsE e n = []
    · simp -dsimp -implicitDefEqProofs [hsub, hL, lvE_nil, obE_nil]
    · simp -dsimp -implicitDefEqProofs [hsub, lvE_cons hL, obE_cons hL]
end Go.Proofs.YtgophedkejgedaaGreatDoorAi
end

section
/- Contracts: numerals, texts of fractions. -/
namespace Go.Proofs.YtgophedkejgedaaGreatDoorAi
open Go Go.RowKit
set_option linter.unusedVariables false
set_option linter.unusedSimpArgs false
set_option maxRecDepth 20000

@[simp] theorem ba_size (a : Array UInt8) : (ByteArray.mk a).size = a.size := rfl
/-- The numeral of a number. -/
def decB (n : Int) : ByteArray := ⟨(Go.Lib.itoa n).toArray⟩
theorem decB_small {n : Int} (h0 : 0 ≤ n) (h1 : n < 10) : decB n = ⟨[UInt8.ofNat (48 + n.toNat)].toArray⟩ := by
  unfold decB Go.Lib.itoa
  rw [if_neg (by omega), Go.Lib.decDigits, dif_pos (by omega)]
theorem decB_step {n : Int} (h : 10 ≤ n) : decB n = decB (n.tdiv 10) ++ ⟨[UInt8.ofNat (48 + (n.tmod 10).toNat)].toArray⟩ := by
  have e1 : (n.tdiv 10).toNat = n.toNat / 10 := by
    rw [Int.tdiv_eq_ediv_of_nonneg (by omega)]; omega
  have e2 : (n.tmod 10).toNat = n.toNat % 10 := by
    rw [Int.tmod_eq_emod_of_nonneg (by omega)]; omega
  unfold decB Go.Lib.itoa
  rw [if_neg (by omega), if_neg (by rw [Int.tdiv_eq_ediv_of_nonneg (by omega)]; omega), e1, e2, Go.Lib.decDigits, dif_neg (by omega)]
  apply ByteArray.ext
  simp
theorem decB_neg {n : Int} (h : n < 0) : decB n = ⟨[45].toArray⟩ ++ decB (n.natAbs : Int) := by
  unfold decB Go.Lib.itoa
  rw [if_pos h, if_neg (by omega)]
  apply ByteArray.ext
  simp
theorem nDig_le : ∀ (k u : Nat), u < 10 ^ (k + 1) → Go.Lib.nDigits u ≤ k + 1
  | 0, u, h => by rw [Go.Lib.nDigits_small (by simpa using h)]; omega
  | k + 1, u, h => by
    by_cases hu : u < 10
    · rw [Go.Lib.nDigits_small hu]; omega
    · rw [Go.Lib.nDigits_big hu]
      have := nDig_le k (u / 10) (by rw [Nat.pow_succ] at h; omega)
      omega
theorem decB_size (n : Int) (h0 : -9223372036854775808 ≤ n) (h1 : n ≤ 9223372036854775807) : (decB n).size ≤ 21 := by
  have hl : (Go.Lib.itoa n).length ≤ 21 := by
    unfold Go.Lib.itoa
    split
    · have := nDig_le 19 n.natAbs (by omega)
      rw [List.length_cons, Go.Lib.decDigits_length]; omega
    · have := nDig_le 19 n.toNat (by omega)
      rw [Go.Lib.decDigits_length]; omega
  unfold decB
  simpa [ByteArray.size] using hl

noncomputable def sp_decK (k : Nat) : List AV → Option AV := pf (ι := Int) (α := AV) (fun n => 0 ≤ n ∧ n < 10 ^ k ∧ n ≤ 9223372036854775807) (fun n => [.int .i64 n]) (fun n => .str (decB n))
theorem sp_decK_eq (k : Nat) (n : Int) (h : 0 ≤ n ∧ n < 10 ^ k ∧ n ≤ 9223372036854775807) : sp_decK k [.int .i64 n] = some (.str (decB n)) := by
  unfold sp_decK
  exact pf_eq (ι := Int) (α := AV) n h (by rintro n' _ e; simp_all)
theorem wrap_dig {d : Int} (h0 : 0 ≤ d) (h1 : d < 10) : IntKind.wrap .u8 (48 + d) = 48 + d := by
  simp [IntKind.wrap, IntKind.signed, IntKind.bits]; omega
theorem wrap_dig' {d : Int} (h0 : 0 ≤ d) (h1 : d < 10) : IntKind.wrap .i64 (48 + d) = 48 + d := by
  simp [IntKind.wrap, IntKind.signed, IntKind.bits]; omega
theorem q_decK : ∀ k, QP PP 77 (sp_decK k) := by
  intro k
  induction k with
  | zero =>
    refine QP_pf (fun n h => ?_) fun n h => ?_
    · exact ⟨by first | rfl | simp, by first | rfl | simp⟩
    replace h : 0 ≤ n ∧ n < 10 ^ 0 ∧ n ≤ 9223372036854775807 := h
    obtain rfl : n = 0 := by omega
    refine P_code Quiet.nil hmix k_spec_Decimal rfl ?_ ?_
    · first | rfl | simp
    show wpc 0 PP _ c_spec_Decimal (initSt [.int .i64 0] .nil) (endP r_spec_Decimal (.str (decB 0)))
    have w : IntKind.wrap .u8 48 = 48 := rfl
    have w' : IntKind.wrap .i64 48 = 48 := rfl
    rw [decB_small (by decide) (by decide)]
    simp -dsimp -implicitDefEqProofs [c_spec_Decimal, r_spec_Decimal, w, w']
  | succ k ih =>
    refine QP_pf (fun n h => ?_) fun n h => ?_
    · exact ⟨by first | rfl | simp, by first | rfl | simp⟩
    replace h : 0 ≤ n ∧ n < 10 ^ (k + 1) ∧ n ≤ 9223372036854775807 := h
    refine P_code (Quiet.q1 ih Quiet.nil) hmix k_spec_Decimal rfl ?_ ?_
    · first | rfl | simp
    show wpc 0 PP _ c_spec_Decimal (initSt [.int .i64 n] .nil) (endP r_spec_Decimal (.str (decB n)))
    by_cases hn : 10 ≤ n
    · have hb : decide (10 ≤ n) = true := decide_eq_true hn
      have em : 0 ≤ n.tmod 10 ∧ n.tmod 10 < 10 := by rw [Int.tmod_eq_emod_of_nonneg (by omega)]; omega
      have ed : 0 ≤ n.tdiv 10 ∧ n.tdiv 10 < 10 ^ k ∧ n.tdiv 10 ≤ 9223372036854775807 := by
        rw [Int.tdiv_eq_ediv_of_nonneg (by omega)]
        have : (10 : Int) ^ (k + 1) = 10 ^ k * 10 := Int.pow_succ ..
        omega
      have w := wrap_dig em.1 em.2
      have w' := wrap_dig' em.1 em.2
      have b1 : 0 ≤ 48 + n.tmod 10 := by omega
      have b2 : 48 + n.tmod 10 < 256 := by omega
      have b3 : (48 + n.tmod 10).toNat = 48 + (n.tmod 10).toNat := by omega
      have hc := sp_decK_eq k _ ed
      have hs := decB_size (n.tdiv 10) (by omega) (by omega)
      have wd : IntKind.wrap .i64 (n.tdiv 10) = n.tdiv 10 := by simp [IntKind.wrap, IntKind.signed, IntKind.bits]; omega
      have wm : IntKind.wrap .i64 (n.tmod 10) = n.tmod 10 := by simp [IntKind.wrap, IntKind.signed, IntKind.bits]; omega
      have hz : (decB (n.tdiv 10)).size + 1 ≤ 9223372036854775807 := by omega
      rw [decB_step hn]
      simp -dsimp -implicitDefEqProofs [c_spec_Decimal, r_spec_Decimal, hb, w, w', b1, b2, b3, hc, wd, wm, hz]
    · have hb : decide (10 ≤ n) = false := decide_eq_false hn
      have w := wrap_dig (d := n) (by omega) (by omega)
      have w' := wrap_dig' (d := n) (by omega) (by omega)
      have b1 : 0 ≤ 48 + n := by omega
      have b2 : 48 + n < 256 := by omega
      have b3 : (48 + n).toNat = 48 + n.toNat := by omega
      rw [decB_small (by omega) (by omega)]
      simp -dsimp -implicitDefEqProofs [c_spec_Decimal, r_spec_Decimal, hb, w, w', b1, b2, b3]
noncomputable def sp_decS : List AV → Option (AV) := pf (ι := (Int)) (α := AV) (fun n => 0 ≤ n ∧ n ≤ 9223372036854775807) (fun n => [.int .i64 n]) (fun n => .str (decB n))
theorem sp_decS_eq (n : Int) (h : 0 ≤ n ∧ n ≤ 9223372036854775807) : sp_decS [.int .i64 n] = some (.str (decB n)) := by
  unfold sp_decS
  exact pf_eq (ι := (Int)) (α := AV) n h (by rintro n' _ e; simp_all [Int.natCast_inj])
theorem q_spec_Decimal : QP PP 77 sp_decS := by
  intro args r e
  obtain ⟨n, h, rfl, rfl⟩ : ∃ n : Int, (0 ≤ n ∧ n ≤ 9223372036854775807) ∧ args = [.int .i64 n] ∧ r = .str (decB n) := by
    unfold sp_decS pf at e
    split at e
    · rename_i hx
      injection e with e
      refine ⟨Classical.choose hx, (Classical.choose_spec hx).1, ?_, e.symm⟩
      first | exact (Classical.choose_spec hx).2 | exact (Classical.choose_spec hx).2.symm
    · cases e
  exact q_decK 19 _ _ (sp_decK_eq 19 n ⟨h.1, by omega, h.2⟩)
end Go.Proofs.YtgophedkejgedaaGreatDoorAi
end

section
/- Contracts: the numeral of the program, texts of fractions. -/
namespace Go.Proofs.YtgophedkejgedaaGreatDoorAi
open Go Go.RowKit
set_option linter.unusedVariables false
set_option linter.unusedSimpArgs false
set_option maxRecDepth 20000

noncomputable def sp_formatI : List AV → Option (AV) := pf (ι := (Int)) (α := AV) (fun n => -9223372036854775808 ≤ n ∧ n ≤ 9223372036854775807) (fun n => [.int .i64 n, .int .i64 10]) (fun n => .str (decB n))
theorem sp_formatI_eq (n : Int) (h : -9223372036854775808 ≤ n ∧ n ≤ 9223372036854775807) : sp_formatI [.int .i64 n, .int .i64 10] = some (.str (decB n)) := by
  unfold sp_formatI
  exact pf_eq (ι := (Int)) (α := AV) n h (by rintro n' _ e; simp_all [Int.natCast_inj])
theorem below_grown' (w : World) (k : Nat) (os : Array Obj) : Below w.heap.size w (Go.Sort.grow (w.drewN k) os) :=
  ⟨rfl, rfl, rfl, by show w.heap.size ≤ (w.heap ++ os).size; rw [Array.size_append]; omega, fun j hj => by show (w.heap ++ os)[j]? = _; rw [Array.getElem?_append_left hj]⟩
theorem q_internal_strconv_FormatInt : QP PP 129 sp_formatI := by
  refine QP_pf (fun n h => ?_) fun n h => ?_
  · exact ⟨by first | rfl | simp, by first | rfl | simp⟩
  replace h : -9223372036854775808 ≤ n ∧ n ≤ 9223372036854775807 := h
  refine T.lib ⟨_, Tryz.func129, by kernel_rfl, by kernel_rfl⟩ (fun σ w vs hr hG => ?_) .nil
  obtain ⟨v1, us, rfl, h1, h2⟩ := hr.head
  obtain ⟨v2, us2, rfl, h3, h4⟩ := h2.head
  obtain rfl : us2 = [] := List.eq_nil_of_length_eq_zero h4.1.symm
  cases h1; cases h3
  refine (Tryz.internal_strconv_FormatInt_10 n h.1 h.2 w (hG.tab (by kernel_rfl))).mono ?_
  rintro e w' ⟨rfl, k, os, rfl⟩
  exact ⟨_, rfl, below_grown' w k os, .str _⟩
theorem q_strconv_FormatInt : QP PP 85 sp_formatI := by
  refine QP_pf (fun n h => ?_) fun n h => ?_
  · exact ⟨by first | rfl | simp, by first | rfl | simp⟩
  replace h : -9223372036854775808 ≤ n ∧ n ≤ 9223372036854775807 := h
  refine P_code (Quiet.q1 q_internal_strconv_FormatInt Quiet.nil) hmix k_strconv_FormatInt rfl ?_ ?_
  · first | rfl | simp
  show wpc 0 PP _ c_strconv_FormatInt (initSt [.int .i64 n, .int .i64 10] .nil) (endP r_strconv_FormatInt (.str (decB n)))
  simp -dsimp -implicitDefEqProofs [c_strconv_FormatInt, r_strconv_FormatInt, sp_formatI_eq n h]
noncomputable def sp_decimal : List AV → Option (AV) := pf (ι := (Int)) (α := AV) (fun n => -9223372036854775808 ≤ n ∧ n ≤ 9223372036854775807) (fun n => [.int .i64 n]) (fun n => .str (decB n))
theorem sp_decimal_eq (n : Int) (h : -9223372036854775808 ≤ n ∧ n ≤ 9223372036854775807) : sp_decimal [.int .i64 n] = some (.str (decB n)) := by
  unfold sp_decimal
  exact pf_eq (ι := (Int)) (α := AV) n h (by rintro n' _ e; simp_all [Int.natCast_inj])
theorem q_impl_decimal : QP PP 38 sp_decimal := by
  refine QP_pf (fun n h => ?_) fun n h => ?_
  · exact ⟨by first | rfl | simp, by first | rfl | simp⟩
  replace h : -9223372036854775808 ≤ n ∧ n ≤ 9223372036854775807 := h
  refine P_code (Quiet.q1 q_strconv_FormatInt Quiet.nil) hmix k_impl_decimal rfl ?_ ?_
  · first | rfl | simp
  show wpc 0 PP _ c_impl_decimal (initSt [.int .i64 n] .nil) (endP r_impl_decimal (.str (decB n)))
  simp -dsimp -implicitDefEqProofs [c_impl_decimal, r_impl_decimal, sp_formatI_eq n h]

def slashB : ByteArray := ⟨#[47]⟩
def minusB : ByteArray := ⟨#[45]⟩
def noB : ByteArray := ⟨#[]⟩
def frT (p q : Int) : ByteArray := if q = 1 then decB p else decB p ++ slashB ++ decB q
noncomputable def sp_frText : List AV → Option (AV) := pf (ι := (Int) × (Int)) (α := AV) (fun ⟨p, q⟩ => (-9223372036854775808 ≤ p ∧ p ≤ 9223372036854775807) ∧ (-9223372036854775808 ≤ q ∧ q ≤ 9223372036854775807)) (fun ⟨p, q⟩ => [.agg [.int .i64 p, .int .i64 q]]) (fun ⟨p, q⟩ => .str (frT p q))
theorem sp_frText_eq (p q : Int) (h : (-9223372036854775808 ≤ p ∧ p ≤ 9223372036854775807) ∧ (-9223372036854775808 ≤ q ∧ q ≤ 9223372036854775807)) : sp_frText [.agg [.int .i64 p, .int .i64 q]] = some (.str (frT p q)) := by
  unfold sp_frText
  exact pf_eq (ι := (Int) × (Int)) (α := AV) (p, q) h (by rintro ⟨p', q'⟩ _ e; simp_all [Int.natCast_inj])
theorem q_impl_Fraction_text : QP PP 72 sp_frText := by
  refine QP_pf (fun i h => ?_) fun i h => ?_
  · obtain ⟨p, q⟩ := i; exact ⟨by first | rfl | simp, by first | rfl | simp⟩
  obtain ⟨p, q⟩ := i
  replace h : (-9223372036854775808 ≤ p ∧ p ≤ 9223372036854775807) ∧ (-9223372036854775808 ≤ q ∧ q ≤ 9223372036854775807) := h
  refine P_code (Quiet.q1 q_impl_decimal Quiet.nil) hmix k_impl_Fraction_text rfl ?_ ?_
  · first | rfl | simp
  show wpc 0 PP _ c_impl_Fraction_text (initSt [.agg [.int .i64 p, .int .i64 q]] .nil) (endP r_impl_Fraction_text (.str (frT p q)))
  have hp := sp_decimal_eq p h.1
  have hq := sp_decimal_eq q h.2
  have sp := decB_size p h.1.1 h.1.2
  have sq := decB_size q h.2.1 h.2.2
  by_cases hone : q = 1
  · subst hone
    simp -dsimp -implicitDefEqProofs [c_impl_Fraction_text, r_impl_Fraction_text, hp, frT]
  · have hb : (q == 1) = false := by simpa using hone
    have s1 : (decB p).size + 1 ≤ 9223372036854775807 := by omega
    have s2 : (decB p).size + 1 + (decB q).size ≤ 9223372036854775807 := by omega
    simp -dsimp -implicitDefEqProofs [c_impl_Fraction_text, r_impl_Fraction_text, hp, hq, hb, s1, s2, frT, hone, slashB]
end Go.Proofs.YtgophedkejgedaaGreatDoorAi
end

section
/- Contracts and law: FractionText. -/
namespace Go.Proofs.YtgophedkejgedaaGreatDoorAi
open Go Go.RowKit
set_option linter.unusedVariables false
set_option linter.unusedSimpArgs false
set_option maxRecDepth 20000

theorem frOk_bd {p q : Int} (h : frOk p q = true) : (-1000000000 ≤ p ∧ p ≤ 1000000000) ∧ (1 ≤ q ∧ q ≤ 1000000000) := by
  unfold frOk at h
  have := of_decide_eq_true h
  exact ⟨this.1, this.2.1⟩
def fracT (p q : Int) : ByteArray := if frOk p q = true then frT p q else noB
noncomputable def sp_fracText : List AV → Option (AV) := pf (ι := (Int) × (Int)) (α := AV) (fun ⟨p, q⟩ => True) (fun ⟨p, q⟩ => [.agg [.int .i64 p, .int .i64 q]]) (fun ⟨p, q⟩ => .str (fracT p q))
theorem sp_fracText_eq (p q : Int) : sp_fracText [.agg [.int .i64 p, .int .i64 q]] = some (.str (fracT p q)) := by
  unfold sp_fracText
  exact pf_eq (ι := (Int) × (Int)) (α := AV) (p, q) trivial (by rintro ⟨p', q'⟩ _ e; simp_all [Int.natCast_inj])
attribute [simp] sp_fracText_eq
theorem q_spec_FractionText : QP PP 66 sp_fracText := by
  refine QP_pf (fun i h => ?_) fun i h => ?_
  · obtain ⟨p, q⟩ := i; exact ⟨by first | rfl | simp, by first | rfl | simp⟩
  obtain ⟨p, q⟩ := i
  replace h : True := h
  refine P_code (Quiet.q1 q_spec_l02Ok (Quiet.q1 q_spec_l02Abs (Quiet.q1 q_spec_Decimal Quiet.nil))) hmix k_spec_FractionText rfl ?_ ?_
  · first | rfl | simp
  show wpc 0 PP _ c_spec_FractionText (initSt [.agg [.int .i64 p, .int .i64 q]] .nil) (endP r_spec_FractionText (.str (fracT p q)))
  cases hf : frOk p q with
  | false => simp -dsimp -implicitDefEqProofs [c_spec_FractionText, r_spec_FractionText, hf, fracT, noB]
  | true =>
    have hb := frOk_bd hf
    have ha := sp_size_eq p (by omega)
    have hd := sp_decS_eq p.natAbs (by omega)
    have hd2 := sp_decS_eq q (by omega)
    have s0 := decB_size p.natAbs (by omega) (by omega)
    have s2 := decB_size q (by omega) (by omega)
    have z1 : 1 + (decB p.natAbs).size ≤ 9223372036854775807 := by omega
    have z2 : 1 + (decB q).size ≤ 9223372036854775807 := by omega
    have z3 : (decB p.natAbs).size + (1 + (decB q).size) ≤ 9223372036854775807 := by omega
    have z4 : 1 + (decB p.natAbs).size + (1 + (decB q).size) ≤ 9223372036854775807 := by omega
    by_cases hp : p < 0
    · by_cases hq : q = 1
      · subst hq
        simp -dsimp -implicitDefEqProofs [c_spec_FractionText, r_spec_FractionText, hf, fracT, frT, ha, hd, hp, decB_neg hp, z1]
      · have hqb : (q != 1) = true := by simpa using hq
        simp -dsimp -implicitDefEqProofs [c_spec_FractionText, r_spec_FractionText, hf, fracT, frT, ha, hd, hd2, hp, hq, hqb, decB_neg hp, z1, z2, z4, slashB, ByteArray.append_assoc]
    · have e0 : ((p.natAbs : Nat) : Int) = p := by omega
      rw [e0] at hd s0 z1 z3 z4 ha
      by_cases hq : q = 1
      · subst hq
        simp -dsimp -implicitDefEqProofs [c_spec_FractionText, r_spec_FractionText, hf, fracT, frT, ha, hd, hp, z1]
      · have hqb : (q != 1) = true := by simpa using hq
        simp -dsimp -implicitDefEqProofs [c_spec_FractionText, r_spec_FractionText, hf, fracT, frT, ha, hd, hd2, hp, hq, hqb, z1, z2, z3, slashB, ByteArray.append_assoc]
theorem beq_ba (a : ByteArray) : (a == a) = true := by show (a.data == a.data) = true; simp
theorem bne_ba (a : ByteArray) : (a != a) = false := by unfold bne; rw [beq_ba]; rfl
def tyFraction : Ty := .st [.int .i64, .int .i64]
end Go.Proofs.YtgophedkejgedaaGreatDoorAi
end

section
/- Contracts and laws: GraphText, FlagText. -/
namespace Go.Proofs.YtgophedkejgedaaGreatDoorAi
open Go Go.RowKit
set_option linter.unusedVariables false
set_option linter.unusedSimpArgs false
set_option maxRecDepth 20000

theorem getF0 (l : List Fr) (i : Nat) (h : i < l.length) (h2 : i * 2 < (flatA (frsA l)).length) : (flatA (frsA l))[i * 2] = .int .i64 l[i].p := by
  have := get_fr0 l i h
  rw [List.getElem?_eq_getElem h2] at this
  exact Option.some.inj this
theorem getF1 (l : List Fr) (i : Nat) (h : i < l.length) (h2 : i * 2 + 1 < (flatA (frsA l)).length) : (flatA (frsA l))[i * 2 + 1] = .int .i64 l[i].q := by
  have := get_fr1 l i h
  rw [List.getElem?_eq_getElem h2] at this
  exact Option.some.inj this
def sepB : ByteArray := ⟨#[32]⟩
def dashB : ByteArray := ⟨#[45]⟩
def graphB : ByteArray := ⟨#[103, 114, 97, 112, 104, 32]⟩
def edgeT (p q : Int) : ByteArray := sepB ++ decB p ++ dashB ++ decB q
def edT (w : ByteArray) (L : List Fr) : ByteArray := L.foldl (fun w x => w ++ edgeT x.p x.q) w
theorem edT_snoc (w : ByteArray) (L : List Fr) (i : Nat) (h : i < L.length) : edT w (L.take (i + 1)) = edT w (L.take i) ++ edgeT L[i].p L[i].q := by
  rw [take_snoc L i h]; unfold edT; rw [List.foldl_append]; rfl
theorem edgeT_size {p q : Int} (hp : -9223372036854775808 ≤ p ∧ p ≤ 9223372036854775807) (hq : -9223372036854775808 ≤ q ∧ q ≤ 9223372036854775807) : (edgeT p q).size ≤ 44 := by
  have h1 := decB_size p hp.1 hp.2
  have h2 := decB_size q hq.1 hq.2
  have h3 : sepB.size = 1 := rfl
  have h4 : dashB.size = 1 := rfl
  unfold edgeT
  simp only [ByteArray.size_append]
  omega
theorem edT_size (w : ByteArray) (L : List Fr) (hL : ∀ x ∈ L, (0 ≤ x.p ∧ x.p < 5) ∧ (0 ≤ x.q ∧ x.q < 5)) : (edT w L).size ≤ w.size + L.length * 44 := by
  induction L generalizing w with
  | nil => simp [edT]
  | cons x L ih =>
    have hx := hL x (List.mem_cons_self ..)
    have h1 := ih (w ++ edgeT x.p x.q) fun y hy => hL y (List.mem_cons_of_mem _ hy)
    have h2 := edgeT_size (p := x.p) (q := x.q) (by omega) (by omega)
    show (edT (w ++ edgeT x.p x.q) L).size ≤ _
    rw [ByteArray.size_append] at h1
    rw [List.length_cons]
    omega
theorem prE_in {e : Int} {j k : Nat} (hj : j < 5) (hk : k ≤ 5) : ∀ x ∈ prE e j k, (0 ≤ x.p ∧ x.p < 5) ∧ (0 ≤ x.q ∧ x.q < 5) := by
  intro x hx
  unfold prE at hx
  obtain ⟨i, hi, rfl⟩ := List.mem_map.1 hx
  have := List.mem_range.1 (List.mem_filter.1 hi).1
  simp only
  omega
theorem pairsE_in (e : Int) : ∀ (j : Nat), j ≤ 5 → ∀ x ∈ pairsE e j, (0 ≤ x.p ∧ x.p < 5) ∧ (0 ≤ x.q ∧ x.q < 5)
  | 0, _ => by intro x hx; cases hx
  | j + 1, hj => by
    intro x hx
    rw [pairsE] at hx
    rcases List.mem_append.1 hx with hx | hx
    · exact pairsE_in e j (by omega) x hx
    · exact prE_in (by omega) (by omega) x hx
def grT (e : Int) (n : Nat) : ByteArray := edT (graphB ++ decB n) (pairsE e n)
theorem grT_len {e : Int} {n : Nat} (h : n ≤ 5) : (pairsE e n).length ≤ 25 := Nat.le_trans (pairsE_len e n) (Nat.mul_le_mul h h)
theorem edT_take {e : Int} {n : Nat} (h : n ≤ 5) (i : Nat) : (edT (graphB ++ decB n) ((pairsE e n).take i)).size ≤ 1200 := by
  have h1 := edT_size (graphB ++ decB n) ((pairsE e n).take i) fun x hx => pairsE_in e n h x (List.mem_of_mem_take hx)
  have h2 := grT_len (e := e) h
  have h3 : ((pairsE e n).take i).length ≤ (pairsE e n).length := by rw [List.length_take]; omega
  have h4 := decB_size n (by omega) (by omega)
  have h5 : graphB.size = 6 := rfl
  rw [ByteArray.size_append] at h1
  omega
noncomputable def sp_graphTx : List AV → Option (AV) := pf (ι := (Nat) × (Int)) (α := AV) (fun ⟨n, e⟩ => n ≤ 5 ∧ 0 ≤ e ∧ e ≤ 4294967295) (fun ⟨n, e⟩ => [.agg [.int .i64 n, .int .u32 e]]) (fun ⟨n, e⟩ => .str (grT e n))
theorem sp_graphTx_eq (n : Nat) (e : Int) (h : n ≤ 5 ∧ 0 ≤ e ∧ e ≤ 4294967295) : sp_graphTx [.agg [.int .i64 n, .int .u32 e]] = some (.str (grT e n)) := by
  unfold sp_graphTx
  exact pf_eq (ι := (Nat) × (Int)) (α := AV) (n, e) h (by rintro ⟨n', e'⟩ _ e; simp_all [Int.natCast_inj])
theorem q_impl_Graph_text : QP PP 73 sp_graphTx := by
  refine QP_pf (fun i h => ?_) fun i h => ?_
  · obtain ⟨n, e⟩ := i; exact ⟨by first | rfl | simp, by first | rfl | simp⟩
  obtain ⟨n, e⟩ := i
  replace h : n ≤ 5 ∧ 0 ≤ e ∧ e ≤ 4294967295 := h
  refine P_code (Quiet.q1 q_impl_decimal (Quiet.e1 n_impl_Graph_edges.toE Quiet.nil)) hmix k_impl_Graph_text rfl ?_ ?_
  · first | rfl | simp
  show wpc 0 PP _ c_impl_Graph_text (initSt [.agg [.int .i64 n, .int .u32 e]] .nil) (endP r_impl_Graph_text (.str (grT e n)))
  have hd := sp_decimal_eq n (by omega)
  have hs := decB_size n (by omega) (by omega)
  have he := sp_edges_eq n e h
  have z0 : 6 + (decB n).size ≤ 9223372036854775807 := by omega
  have hin := pairsE_in e n h.1
  have hlen := grT_len (e := e) h.1
  unfold pairsR at he
  unfold grT
  by_cases hL : pairsE e n = []
  · rw [hL, lvE_nil, obE_nil] at he
    rw [hL]
    simp -dsimp -implicitDefEqProofs [c_impl_Graph_text, r_impl_Graph_text, hd, he, z0]
    refine wpLoop_st (fun (_ : Unit) => ⟨tl [(3, .str (graphB ++ decB n)), (11, .sl [] true), (12, .int .i64 0), (13, .int .i64 0)], ⟨[]⟩⟩) (fun _ => True) (fun _ => 0) () trivial (Sub.keep (by simp) (by simp [hsub]) (by simp [graphB])) ?_
    intro i hi
    simp -dsimp -implicitDefEqProofs [edT]
  · have ht := fun i => edT_take (e := e) h.1 i
    generalize pairsE e n = L at *
    rw [lvE_cons hL, obE_cons hL] at he
    simp -dsimp -implicitDefEqProofs [c_impl_Graph_text, r_impl_Graph_text, hd, he, z0]
    refine wpLoop_st (fun (i : Nat) => ⟨tl [(3, .str (edT (graphB ++ decB n) (L.take i))), (11, .ref 1 2 0 L.length .full), (12, .int .i64 L.length), (13, .int .i64 i)], ⟨[some [.int .i64 n, .int .u32 e], some (flatA (frsA L))]⟩⟩) (fun i => i ≤ L.length) (fun i => L.length - i) 0 (by omega) (Sub.keep (by simp) (by simp [hsub]) (by simp [graphB, edT])) ?_
    intro i hi
    simp -dsimp -implicitDefEqProofs
    refine brW_of (fun h2 => ?_) (fun h2 => ?_) <;> simp only [decide_eq_true_eq, decide_eq_false_iff_not] at h2
    · have hx : i < L.length := by omega
      have hwi := wrapNat (i := i) (by omega)
      have hm := hin L[i] (List.getElem_mem hx)
      have hp := sp_decimal_eq L[i].p (by omega)
      have hq := sp_decimal_eq L[i].q (by omega)
      have hes := edT_snoc (graphB ++ decB n) L i hx
      have ht1 := ht i
      have q0 := get_fr0 L i hx
      have q1 := get_fr1 L i hx
      have g0 := getF0 L i hx (by simp; omega)
      have g1 := getF1 L i hx (by simp; omega)
      have sp := decB_size L[i].p (by omega) (by omega)
      have sq := decB_size L[i].q (by omega) (by omega)
      have z1 : 1 + (decB L[i].p).size ≤ 9223372036854775807 := by omega
      have z2 : 1 + (decB L[i].p).size + 1 ≤ 9223372036854775807 := by omega
      have z3 : 1 + (decB L[i].p).size + 1 + (decB L[i].q).size ≤ 9223372036854775807 := by omega
      have z4 : (edT (graphB ++ decB n) (L.take i)).size + (1 + (decB L[i].p).size + 1 + (decB L[i].q).size) ≤ 9223372036854775807 := by omega
      simp -dsimp -implicitDefEqProofs [hx, hp, hq, hwi, g0, g1, q0, q1, z1, z2, z3, z4]
      exact .mk (i + 1) (by omega) (by omega) (Sub.keep (by simp) (by simp [hsub]) (by simp [hes, edgeT, sepB, dashB, hwi]))
    · obtain rfl : i = L.length := by omega
      simp -dsimp -implicitDefEqProofs
theorem graphOk_in {n e : Int} (h : graphOk n e = true) : 0 ≤ n ∧ n ≤ 5 := by
  unfold graphOk at h
  exact (of_decide_eq_true h).1
def graphT (n e : Int) : ByteArray := if graphOk n e = true then grT e n.toNat else noB
noncomputable def sp_graphText : List AV → Option (AV) := pf (ι := (Int) × (Int)) (α := AV) (fun ⟨n, e⟩ => 0 ≤ e ∧ e ≤ 4294967295) (fun ⟨n, e⟩ => [.agg [.int .i64 n, .int .u32 e]]) (fun ⟨n, e⟩ => .str (graphT n e))
theorem sp_graphText_eq (n e : Int) (h : 0 ≤ e ∧ e ≤ 4294967295) : sp_graphText [.agg [.int .i64 n, .int .u32 e]] = some (.str (graphT n e)) := by
  unfold sp_graphText
  exact pf_eq (ι := (Int) × (Int)) (α := AV) (n, e) h (by rintro ⟨n', e'⟩ _ e; simp_all [Int.natCast_inj])
theorem q_spec_GraphText : QP PP 67 sp_graphText := by
  refine QP_pf (fun i h => ?_) fun i h => ?_
  · obtain ⟨n, e⟩ := i; exact ⟨by first | rfl | simp, by first | rfl | simp⟩
  obtain ⟨n, e⟩ := i
  replace h : 0 ≤ e ∧ e ≤ 4294967295 := h
  refine P_code (Quiet.q1 q_spec_l01Ok (Quiet.q1 q_spec_Decimal (Quiet.e1 n_spec_l01Pairs.toE Quiet.nil))) hmix k_spec_GraphText rfl ?_ ?_
  · first | rfl | simp
  show wpc 0 PP _ c_spec_GraphText (initSt [.agg [.int .i64 n, .int .u32 e]] .nil) (endP r_spec_GraphText (.str (graphT n e)))
  have ho := sp_graphOk_eq n e h
  cases hf : graphOk n e with
  | false =>
    rw [hf] at ho
    simp -dsimp -implicitDefEqProofs [c_spec_GraphText, r_spec_GraphText, ho, hf, graphT, noB]
  | true =>
    rw [hf] at ho
    have hn := graphOk_in hf
    obtain ⟨m, rfl⟩ := Int.eq_ofNat_of_zero_le hn.1
    have hm5 : m ≤ 5 := by omega
    have hd := sp_decS_eq m (by omega)
    have hs := decB_size m (by omega) (by omega)
    have he := sp_edges_eq m e ⟨hm5, h⟩
    have z0 : 6 + (decB m).size ≤ 9223372036854775807 := by omega
    have hin := pairsE_in e m hm5
    have hlen := grT_len (e := e) hm5
    unfold pairsR at he
    unfold graphT
    rw [if_pos hf, Int.toNat_natCast]
    unfold grT
    by_cases hL : pairsE e m = []
    · rw [hL, lvE_nil, obE_nil] at he
      rw [hL]
      simp -dsimp -implicitDefEqProofs [c_spec_GraphText, r_spec_GraphText, ho, hd, he, z0]
      refine wpLoop_st (fun (_ : Unit) => ⟨tl [(3, .str (graphB ++ decB m)), (4, .sl [] true), (5, .int .i64 0)], ⟨[]⟩⟩) (fun _ => True) (fun _ => 0) () trivial (Sub.keep (by simp) (by simp [hsub]) (by simp [graphB])) ?_
      intro i hi
      simp -dsimp -implicitDefEqProofs [edT]
    · have ht := fun i => edT_take (e := e) hm5 i
      generalize pairsE e m = L at *
      rw [lvE_cons hL, obE_cons hL] at he
      simp -dsimp -implicitDefEqProofs [c_spec_GraphText, r_spec_GraphText, ho, hd, he, z0]
      refine wpLoop_st (fun (i : Nat) => ⟨tl [(3, .str (edT (graphB ++ decB m) (L.take i))), (4, .ref 1 2 0 L.length .full), (5, .int .i64 i)], ⟨[some [.int .i64 m, .int .u32 e], some (flatA (frsA L))]⟩⟩) (fun i => i ≤ L.length) (fun i => L.length - i) 0 (by omega) (Sub.keep (by simp) (by simp [hsub]) (by simp [graphB, edT])) ?_
      intro i hi
      simp -dsimp -implicitDefEqProofs
      refine brW_of (fun h2 => ?_) (fun h2 => ?_) <;> simp only [decide_eq_true_eq, decide_eq_false_iff_not] at h2
      · have hx : i < L.length := by omega
        have hwi := wrapNat (i := i) (by omega)
        have hmm := hin L[i] (List.getElem_mem hx)
        have hp := sp_decS_eq L[i].p (by omega)
        have hq := sp_decS_eq L[i].q (by omega)
        have hes := edT_snoc (graphB ++ decB m) L i hx
        have ht1 := ht i
        have q0 := get_fr0 L i hx
        have q1 := get_fr1 L i hx
        have g0 := getF0 L i hx (by simp; omega)
        have g1 := getF1 L i hx (by simp; omega)
        have sp := decB_size L[i].p (by omega) (by omega)
        have sq := decB_size L[i].q (by omega) (by omega)
        have z1 : 1 + (decB L[i].p).size ≤ 9223372036854775807 := by omega
        have z2 : 1 + (decB L[i].p).size + 1 ≤ 9223372036854775807 := by omega
        have z3 : 1 + (decB L[i].p).size + 1 + (decB L[i].q).size ≤ 9223372036854775807 := by omega
        have z4 : (edT (graphB ++ decB m) (L.take i)).size + (1 + (decB L[i].p).size + 1 + (decB L[i].q).size) ≤ 9223372036854775807 := by omega
        simp -dsimp -implicitDefEqProofs [hx, hp, hq, hwi, g0, g1, q0, q1, z1, z2, z3, z4]
        exact .mk (i + 1) (by omega) (by omega) (Sub.keep (by simp) (by simp [hsub]) (by simp [hes, edgeT, sepB, dashB, hwi]))
      · obtain rfl : i = L.length := by omega
        simp -dsimp -implicitDefEqProofs
abbrev tyGraphT : Ty := .st [.int .i64, .int .u32]
end Go.Proofs.YtgophedkejgedaaGreatDoorAi
end
