/- Contracts, joined. -/
import Derived.Test.YtlglgcmpeabdnaaGreatDoorMct2
import Derived.Test.YtlglgcmpeabdnaaGreatDoorShelfB
import Derived.Test.YtlglgcmpeabdnaaGreatDoorAiX
import Derived.Test.YtlglgcmpeabdnaaGreatDoorProg
section
/- Contracts: valid blocks of the reference; certificates that have a text. -/
namespace Go.Proofs.YtlglgcmpeabdnaaGreatDoorAi
open Go Go.RowKit
set_option linter.unusedVariables false
set_option linter.unusedSimpArgs false
set_option maxRecDepth 20000

def allOkF (L : List Fl) : Bool := L.all okFl
def allSm (y : Fl) (L : List Fl) : Bool := L.all fun x => sameB x y && (x.g.n == y.g.n)
def famC (F : List Fl) : Int := if allOkF F = true then (if 8 < F.length then 3 else if F.length = 0 then 4 else if likeB F = true then 0 else 4) else 1
theorem all_step {F : List Fl} {p : Fl → Bool} {i : Nat} (h : i < F.length) (h1 : (F.take i).all p = true) (h2 : p F[i] = true) : (F.take (i + 1)).all p = true := by
  rw [take_snoc F i h, List.all_append, h1]
  simp [h2]
theorem all_bad {F : List Fl} {p : Fl → Bool} {i : Nat} (h : i < F.length) (h2 : p F[i] = false) : F.all p = false := by
  rw [Bool.eq_false_iff]
  intro hh
  have := List.all_eq_true.1 hh F[i] (List.getElem_mem h)
  rw [h2] at this; cases this
noncomputable def sp_family : List AV → Option (AV) := pf (ι := (List Fl)) (α := AV) (fun F => F.length ≤ maxLen ∧ flsIn F) (fun F => [.sl (flsA F) false]) (fun F => .int .i64 (famC F))
theorem sp_family_eq (F : List Fl) (h : F.length ≤ maxLen ∧ flsIn F) : sp_family [.sl (flsA F) false] = some (.int .i64 (famC F)) := by
  unfold sp_family
  exact pf_eq (ι := (List Fl)) (α := AV) F h (by rintro F' _ e; simp_all [Int.natCast_inj])
set_option maxHeartbeats 1000000 in
theorem q_spec_l04Family : QP PP 170 sp_family := by
  refine QP_pf (fun F h => ?_) fun F h => ?_
  · exact ⟨by first | rfl | simp, by first | rfl | simp⟩
  replace h : F.length ≤ maxLen ∧ flsIn F := h
  refine P_code (Quiet.q1 q_spec_l03Ok (Quiet.q1 q_spec_l03Type Quiet.nil)) hmix k_spec_l04Family rfl ?_ ?_
  · first | rfl | simp
  show wpc 0 PP _ c_spec_l04Family (initSt [.sl (flsA F) false] .nil) (endP r_spec_l04Family (.int .i64 (famC F)))
  obtain ⟨hl, hi⟩ := h
  simp only [maxLen] at hl
  unfold famC
  simp -dsimp -implicitDefEqProofs [c_spec_l04Family, r_spec_l04Family]
  refine wpLoop_st (fun (i : Nat) => ⟨tl [(0, .sl (flsA F) false), (3, .int .i64 i)], ⟨[]⟩⟩) (fun i => i ≤ F.length ∧ allOkF (F.take i) = true) (fun i => F.length - i) 0 ⟨Nat.zero_le _, rfl⟩ (Sub.keep (by simp) (by simp [hsub]) (by simp)) ?_
  rintro i ⟨h1, h2⟩
  simp -dsimp -implicitDefEqProofs
  refine brW_of (fun h => ?_) (fun h => ?_) <;> simp only [decide_eq_true_eq, decide_eq_false_iff_not] at h
  · have hx : i < F.length := by omega
    have hwi := wrapNat (i := i) (by omega)
    have hf := sp_flagOk_eq F[i].l F[i].g.n F[i].g.e (hi _ (List.getElem_mem hx))
    have e1 : okFl F[i] = flagOk F[i].l F[i].g.n F[i].g.e := rfl
    cases hb : flagOk F[i].l F[i].g.n F[i].g.e with
    | false =>
      rw [hb] at hf
      have hbad : allOkF F = false := all_bad (p := okFl) hx (by rw [e1]; exact hb)
      simp -dsimp -implicitDefEqProofs [hx, hwi, hf, hbad]
    | true =>
      rw [hb] at hf
      simp -dsimp -implicitDefEqProofs [hx, hwi, hf]
      exact .mk (i + 1) ⟨by omega, all_step (p := okFl) hx h2 (by rw [e1]; exact hb)⟩ (by omega) (Sub.keep (by simp) (by simp [hsub]) (by simp [hwi]))
  · have hii : i = F.length := by omega
    subst hii
    rw [List.take_length] at h2
    by_cases h8 : 8 < F.length
    · have h8i : (8 : Int) < F.length := by omega
      simp -dsimp -implicitDefEqProofs [h8, h8i, h2]
    have h8i : ¬ (8 : Int) < F.length := by omega
    cases F with
    | nil =>
      simp -dsimp -implicitDefEqProofs [h8, h8i, h2]
    | cons y r =>
    have hn0 : ¬ ((r.length : Int) + 1 = 0) := by omega
    have hn0b : (((r.length : Int) + 1) == 0) = false := by simpa using hn0
    have hn0n : ¬ (r.length + 1 = 0) := by omega
    have h8j : ¬ (8 : Int) < (r.length : Int) + 1 := by simp only [List.length_cons] at h8; omega
    have h8k : ¬ 8 < r.length + 1 := by simp only [List.length_cons] at h8; omega
    have hy := List.all_eq_true.1 h2 y (List.mem_cons_self ..)
    have hty := sp_type_fl hy (hi y (List.mem_cons_self ..))
    have hlk : likeB (y :: r) = allSm y (y :: r) := by
      show ((y :: r).all (fun x => sameB x y) && (y :: r).all fun x => x.g.n == y.g.n) = (y :: r).all fun x => sameB x y && (x.g.n == y.g.n)
      generalize (y :: r) = K
      clear hi hl h h1 h2 h8 h8i hn0 hn0b hn0n hy hty
      induction K with
      | nil => rfl
      | cons z K ih =>
        rw [List.all_cons, List.all_cons, List.all_cons, ← ih]
        cases sameB z y <;> cases (z.g.n == y.g.n) <;> cases (K.all fun x => sameB x y) <;> simp
    have hsy : sameB y y = true := by unfold sameB; simp
    simp -dsimp -implicitDefEqProofs [h8, h8i, h8j, h8k, h2, hn0, hn0b, hn0n]
    refine wpLoop_st (fun (i : Nat) => ⟨tl [(0, .sl (flsA (y :: r)) false), (4, .int .i64 i)], ⟨[]⟩⟩) (fun i => (1 ≤ i ∧ i ≤ (y :: r).length) ∧ allSm y ((y :: r).take i) = true) (fun i => (y :: r).length - i) 1 ⟨⟨Nat.le_refl _, by simp⟩, by unfold allSm; simp [hsy]⟩ (Sub.keep (by simp) (by simp [hsub]) (by simp)) ?_
    rintro i ⟨⟨h3, h4⟩, h5⟩
    simp -dsimp -implicitDefEqProofs
    refine brW_of (fun h => ?_) (fun h => ?_) <;> simp only [decide_eq_true_eq, decide_eq_false_iff_not] at h
    · have hx : i < (y :: r).length := by simp only [List.length_cons]; omega
      have hwi := wrapNat (i := i) (by simp only [List.length_cons] at h4; omega)
      have hxo := List.all_eq_true.1 h2 _ (List.getElem_mem hx)
      have htx := sp_type_fl hxo (hi _ (List.getElem_mem hx))
      have hx' : i < r.length + 1 := by simpa using hx
      have hg : (flsA (y :: r))[i]? = some (flA (y :: r)[i]) := by simp; exact ⟨_, List.getElem?_eq_getElem hx, rfl, rfl, rfl⟩
      generalize hz : (y :: r)[i] = z at *
      have e1 : (sameB z y && (z.g.n == y.g.n)) = false → likeB (y :: r) = false := fun e => by
        rw [hlk]
        exact all_bad (p := fun x => sameB x y && (x.g.n == y.g.n)) hx (by simp only [hz]; exact e)
      by_cases c1 : z.l = y.l
      · by_cases c2 : typC z = typC y
        · by_cases c3 : z.g.n = y.g.n
          · have c4 : (sameB z y && (z.g.n == y.g.n)) = true := by unfold sameB; rw [c1, c2, c3]; simp
            simp only [c1, c2, c3] at htx
            simp -dsimp -implicitDefEqProofs [hx, hx', hg, hz, hwi, htx, hty, c1, c2, c3]
            exact .mk (i + 1) ⟨⟨by omega, by first | omega | (simp only [List.length_cons]; omega)⟩, all_step (p := fun x => sameB x y && (x.g.n == y.g.n)) hx h5 (by simp only [hz]; exact c4)⟩ (by first | omega | (simp only [List.length_cons]; omega)) (Sub.keep (by simp) (by simp [hsub]) (by simp [hwi]))
          · have c4 := e1 (by simp [c3])
            have c3b : (z.g.n != y.g.n) = true := by simp [bne, c3]
            simp only [c1, c2] at htx
            simp -dsimp -implicitDefEqProofs [hx, hx', hg, hz, hwi, htx, hty, c1, c2, c3, c3b, c4, h2, h8k, hn0n]
        · have c4 := e1 (by unfold sameB; simp [c2])
          have c2b : (typC z == typC y) = false := by simp [c2]
          simp only [c1] at htx
          simp -dsimp -implicitDefEqProofs [hx, hx', hg, hz, hwi, htx, hty, c1, c2, c2b, c4, h2, h8k, hn0n]
      · have c4 := e1 (by unfold sameB; simp [c1])
        have c1b : (z.l == y.l) = false := by simp [c1]
        simp -dsimp -implicitDefEqProofs [hx, hx', hg, hz, hwi, htx, hty, c1, c1b, c4, h2, h8k, hn0n]
    · have hii : i = (y :: r).length := by simp only [List.length_cons] at h4 ⊢; omega
      subst hii
      rw [List.take_length, ← hlk] at h5
      simp -dsimp -implicitDefEqProofs [h2, h8k, hn0n, h5]
end Go.Proofs.YtlglgcmpeabdnaaGreatDoorAi
end

section
/- The law of ValidPattern. -/
namespace Go.Proofs.YtlglgcmpeabdnaaGreatDoorAi
open Go Go.RowKit
set_option linter.unusedVariables false
set_option linter.unusedSimpArgs false

theorem wt_list {α : Type} {f : α → AV} {t : Ty} (hf : ∀ y, WtV t y → ∃ x, y = f x) : ∀ {xs : List AV}, (∀ y ∈ xs, WtV t y) → ∃ l, xs = mapA f l
  | [], _ => ⟨[], rfl⟩
  | x :: xs, h => by
    obtain ⟨l, hl⟩ := wt_list hf fun y hy => h y (List.mem_cons_of_mem _ hy)
    obtain ⟨a, rfl⟩ := hf x (h x (List.mem_cons_self ..))
    exact ⟨a :: l, by rw [hl]; rfl⟩
abbrev tyFr : Ty := .st [.int .i64, .int .i64]
theorem wt_fr (y : AV) (h : WtV tyFr y) : ∃ x, y = frA x := by
  simp only [tyFr, WtV_st, WtL_int, WtL_nil] at h
  obtain ⟨_, rfl, p, _, rfl, _, q, _, rfl, _, rfl⟩ := h
  exact ⟨⟨p, q⟩, rfl⟩
end Go.Proofs.YtlglgcmpeabdnaaGreatDoorAi
end

section
/- Contracts and law: MatrixText. -/
namespace Go.Proofs.YtlglgcmpeabdnaaGreatDoorAi
open Go Go.RowKit
set_option linter.unusedVariables false
set_option linter.unusedSimpArgs false
set_option maxRecDepth 20000

theorem append_noB (a : ByteArray) : a ++ noB = a := by apply ByteArray.ext; simp [noB]
noncomputable def matT (M : List (List Fr)) : ByteArray := if matB M = true then matX M else noB
theorem matP_rows {M : List (List Fr)} (h : MatP M) : ∀ r ∈ M, allOk r = true ∧ r.length ≤ 256 := by
  intro r hr
  refine ⟨h.2.1 r hr, ?_⟩
  obtain ⟨i, hi, rfl⟩ := List.getElem_of_mem hr
  have := h.2.2.choose i hi
  have := h.1
  omega
noncomputable def sp_matText : List AV → Option (AV) := pf (ι := (List (List Fr))) (α := AV) (fun M => M.length ≤ maxLen ∧ ∀ r ∈ M, r.length ≤ maxLen) (fun M => [.sl (rowsA M) false]) (fun M => .str (matT M))
theorem sp_matText_eq (M : List (List Fr)) (h : M.length ≤ maxLen ∧ ∀ r ∈ M, r.length ≤ maxLen) : sp_matText [.sl (rowsA M) false] = some (.str (matT M)) := by
  unfold sp_matText
  exact pf_eq (ι := (List (List Fr))) (α := AV) M h (by rintro M' _ e; simp_all [Int.natCast_inj])
theorem fracsT_snoc (l : List Fr) (j : Nat) (h : j < l.length) : fracsT (l.take (j + 1)) = if j = 0 then frS l[j] else fracsT (l.take j) ++ (oneB ++ frS l[j]) := by
  unfold fracsT
  rw [take_snoc l j h, List.map_append]
  by_cases e : j = 0
  · subst e
    rw [if_pos rfl]
    show joinT ([] ++ [frS l[0]]) oneB = _
    rw [List.nil_append, joinT_one]
  · rw [if_neg e]
    have : (l.take j).map frS ≠ [] := by
      intro h0
      have := congrArg List.length h0
      rw [List.length_map, List.length_take, List.length_nil] at this
      omega
    exact joinT_snoc _ _ _ this
theorem q_spec_MatrixText : QP PP 100 sp_matText := by
  refine QP_pf (fun M h => ?_) fun M h => ?_
  · exact ⟨by first | rfl | simp, by first | rfl | simp⟩
  replace h : M.length ≤ maxLen ∧ ∀ r ∈ M, r.length ≤ maxLen := h
  refine P_code (Quiet.q1 q_spec_l02Matrix (Quiet.q1 q_spec_FractionText Quiet.nil)) hmix k_spec_MatrixText rfl ?_ ?_
  · first | rfl | simp
  show wpc 0 PP _ c_spec_MatrixText (initSt [.sl (rowsA M) false] .nil) (endP r_spec_MatrixText (.str (matT M)))
  have hv := sp_matOk_eq M h
  cases hb : matB M with
  | false =>
    rw [hb] at hv
    simp -dsimp -implicitDefEqProofs [c_spec_MatrixText, r_spec_MatrixText, hv, hb, matT, noB]
  | true =>
    rw [hb] at hv
    have hP := matB_P hb
    obtain ⟨hl, hok, hsq, _⟩ := hP
    have hrows := matP_rows (matB_P hb)
    unfold matT
    rw [if_pos hb]
    simp -dsimp -implicitDefEqProofs [c_spec_MatrixText, r_spec_MatrixText, hv]
    refine wpLoop_st (fun (i : Nat) => ⟨tl [(0, .sl (rowsA M) false), (3, .str (matW noB (M.take i))), (4, .int .i64 i)], ⟨[]⟩⟩) (fun i => i ≤ M.length) (fun i => M.length - i) 0 (by omega) (Sub.keep (by simp) (by simp [hsub]) (by simp [matW, noB])) ?_
    intro i hi
    simp -dsimp -implicitDefEqProofs
    refine brW_of (fun h => ?_) (fun h => ?_) <;> simp only [decide_eq_true_eq, decide_eq_false_iff_not] at h
    · have hx : i < M.length := by omega
      have hwi := wrapNat (i := i) (by omega)
      have hri := hsq i hx
      have hroi := hrows M[i] (List.getElem_mem hx)
      have s2 := matW_size (M.take i) (fun r hr' => hrows r (List.mem_of_mem_take hr')) noB
      have s3 : (M.take i).length ≤ 8 := by rw [List.length_take]; omega
      have s4 : noB.size = 0 := rfl
      have hsn := matW_snoc noB M i hx
      generalize hW : matW noB (M.take i) = W at *
      simp -dsimp -implicitDefEqProofs [hx]
      refine wpLoop_st (fun (j : Nat) => ⟨tl [(0, .sl (rowsA M) false), (3, .str (W ++ fracsT (M[i].take j))), (4, .int .i64 i), (5, .int .i64 j)], ⟨[]⟩⟩) (fun j => j ≤ M.length) (fun j => M.length - j) 0 (by omega) (Sub.keep (by simp) (by simp [hsub]) (by have e : fracsT [] = noB := rfl; simp [e, append_noB, hW])) ?_
      intro j hj
      simp -dsimp -implicitDefEqProofs
      refine brW_of (fun h => ?_) (fun h => ?_) <;> simp only [decide_eq_true_eq, decide_eq_false_iff_not] at h
      · have hy : j < M.length := by omega
        have hwj := wrapNat (i := j) (by omega)
        have k1 : j < M[i].length := by omega
        have hoj := allOk_get hroi.1 M[i][j] (List.getElem_mem k1)
        have hft := sp_fracText_eq M[i][j].p M[i][j].q
        have e7 : fracT M[i][j].p M[i][j].q = frS M[i][j] := by unfold fracT; rw [if_pos hoj]; rfl
        rw [e7] at hft
        have hts := fracsT_snoc M[i] j k1
        have s5 := frS_size hoj
        have s6 : (fracsT (M[i].take j)).size ≤ 12000 := by
          have h0 : allOk (M[i].take j) = true := by
            unfold allOk
            exact List.all_eq_true.2 fun x hx' => allOk_get hroi.1 x (List.mem_of_mem_take hx')
          have h1 := fracsT_size h0
          rw [List.length_take] at h1
          omega
        by_cases hj0 : j = 0
        · subst hj0
          rw [if_pos rfl] at hts
          have e : fracsT (M[i].take 0) = noB := rfl
          rw [e, append_noB]
          have z1 : W.size + (frS M[i][0]).size ≤ 9223372036854775807 := by omega
          have w1 : IntKind.wrap .i64 1 = 1 := rfl
          have hx0 : (0 : Nat) < M[i].length := k1
          simp -dsimp -implicitDefEqProofs [hx, hy, hwj, hri, k1, hft, z1, e7]
          exact .mk (0 + 1) (by omega) (by omega) (Sub.keep (by simp) (by simp [hsub]) (by simp [hts, w1, e7]))
        · rw [if_neg hj0] at hts
          have hj0' : (0 : Int) < j := by omega
          have z1 : W.size + (fracsT (M[i].take j)).size + 1 ≤ 9223372036854775807 := by omega
          have z2 : W.size + (fracsT (M[i].take j)).size + 1 + (frS M[i][j]).size ≤ 9223372036854775807 := by omega
          have hj0'' : 0 < j := by omega
          simp -dsimp -implicitDefEqProofs [hx, hy, hwj, hri, k1, hft, z1, z2, hj0', hj0'', e7]
          exact .mk (j + 1) (by omega) (by omega) (Sub.keep (by simp) (by simp [hsub]) (by simp [hts, hwj, oneB, ByteArray.append_assoc]))
      · have : j = M.length := by omega
        subst this
        have e8 : M[i].take M.length = M[i] := List.take_of_length_le (by omega)
        rw [e8]
        have s7 := fracsT_size hroi.1
        have z1 : W.size + (fracsT M[i]).size + 1 ≤ 9223372036854775807 := by omega
        simp -dsimp -implicitDefEqProofs [hwi, z1]
        exact .mk (i + 1) (by omega) (by omega) (Sub.keep (by simp) (by simp [hsub]) (by simp [hsn, hwi, lineB, ByteArray.append_assoc]))
    · have : i = M.length := by omega
      subst this
      simp -dsimp -implicitDefEqProofs [matX]
end Go.Proofs.YtlglgcmpeabdnaaGreatDoorAi
end

section
/- Contracts: valid blocks of the reference; lists of blocks; certificates that have a text. -/
namespace Go.Proofs.YtlglgcmpeabdnaaGreatDoorAi
open Go Go.RowKit
set_option linter.unusedVariables false
set_option linter.unusedSimpArgs false
set_option maxRecDepth 20000

theorem bkA_inj (x y : Bk) (h : bkA x = bkA y) : x = y := by
  rcases x with ⟨F, M⟩
  rcases y with ⟨F', M'⟩
  simp only [bkA, AV.agg.injEq, List.cons.injEq, AV.sl.injEq, and_true] at h
  rw [flsA_inj.1 h.1, rowsA_inj.1 h.2]
abbrev bksA (L : List Bk) : List AV := mapA bkA L
@[simp] theorem bksA_inj {l k : List Bk} : mapA bkA l = mapA bkA k ↔ l = k := ⟨mapA_inj bkA_inj, fun h => by rw [h]⟩
theorem T_indexK {g : FuncId} {caps : List AV} {os : List (Option (List AV))} (f : Bk → Bool) (l : List Bk) (hl : l.length ≤ maxLen) (ho : ClosedH os) (hc : ltL os.length caps = true)
    (hf : ∀ x ∈ l, T PP g ([.agg [.sl (flsA x.F) false, .sl (rowsA x.M) false]] ++ caps) ⟨os⟩ fun r A' => r = .bool (f x) ∧ A' = ⟨os⟩) :
    T PP 145 [.sl (bksA l) false, .fn g caps] ⟨os⟩ fun r A' => r = .int .i64 (idxF f l 0) ∧ A' = ⟨os⟩ := by
  refine H_code Quiet.nil hmix k_slices_IndexFunc_Simpl_Block_impl_Block rfl (fun b => b) (Nat.le_refl _) (fun _ _ => rfl) (injB_id _) (by rfl) ?_
  show wpc os.length PP _ c_slices_IndexFunc_Simpl_Block_impl_Block (initSt [.sl (bksA l) false, .fn g caps] ⟨os⟩) _
  simp only [maxLen] at hl
  simp -dsimp -implicitDefEqProofs [c_slices_IndexFunc_Simpl_Block_impl_Block, r_slices_IndexFunc_Simpl_Block_impl_Block]
  refine wpLoop_st (fun (i : Nat) => ⟨tl [(0, .sl (bksA l) false), (1, .fn g caps), (7, .int .i64 l.length), (8, .int .i64 i)], ⟨os⟩⟩) (fun i => i ≤ l.length ∧ idxF f (l.drop i) i = idxF f l 0) (fun i => l.length - i) 0 ⟨by omega, rfl⟩ (Sub.pre0 ho (by simp [hc])) ?_
  rintro i ⟨hi, hx⟩
  simp -dsimp -implicitDefEqProofs
  refine brW_of (fun h => ?_) (fun h => ?_) <;> simp only [decide_eq_true_eq, decide_eq_false_iff_not] at h
  · have hi' : i < l.length := by omega
    have hw := wrapNat (i := i) (by omega)
    simp -dsimp -implicitDefEqProofs [hi', hw]
    refine (hf l[i] (List.getElem_mem hi')).mono ?_
    rintro r A' ⟨rfl, rfl⟩
    rw [drop_cons hi', idxF] at hx
    cases hv : f l[i] with
    | false =>
      simp only [hv, Bool.false_eq_true, if_false] at hx
      simp -dsimp -implicitDefEqProofs [hw]
      exact .mk (i + 1) ⟨by omega, hx⟩ (by omega) (Sub.pre0 ho (by simp [hw, hc]))
    | true =>
      simp only [hv, if_true] at hx
      simp -dsimp -implicitDefEqProofs [← hx, hsub_all ho]
  · have : i = l.length := by omega
    subst this
    simp [idxF] at hx
    simp -dsimp -implicitDefEqProofs [← hx, hsub_all ho]
noncomputable def yesK (sp : List AV → AHeap → Option (AV × AHeap)) (caps : List AV) (A : AHeap) (x : Bk) : Bool := yesOf sp ([.agg [.sl (flsA x.F) false, .sl (rowsA x.M) false]] ++ caps) A
open Classical in
noncomputable def spIdxK (g : FuncId) (sp : List AV → AHeap → Option (AV × AHeap)) : List AV → AHeap → Option (AV × AHeap)
  | [.sl xs false, .fn g' caps], A => if h : g' = g ∧ ∃ l : List Bk, xs = bksA l ∧ l.length ≤ maxLen ∧ ∀ x ∈ l, sp ([.agg [.sl (flsA x.F) false, .sl (rowsA x.M) false]] ++ caps) A = some (.bool (yesK sp caps A x), A)
      then some (.int .i64 (idxF (yesK sp caps A) h.2.choose 0), A) else none
  | _, _ => none
theorem spIdxK_eq {g : FuncId} {sp : List AV → AHeap → Option (AV × AHeap)} (f : Bk → Bool) {l : List Bk} {caps : List AV} {A : AHeap} (hl : l.length ≤ maxLen) (h : ∀ x ∈ l, sp ([.agg [.sl (flsA x.F) false, .sl (rowsA x.M) false]] ++ caps) A = some (.bool (f x), A)) :
    spIdxK g sp [.sl (bksA l) false, .fn g caps] A = some (.int .i64 (idxF f l 0), A) := by
  have hy : ∀ x ∈ l, yesK sp caps A x = f x := by
    intro x hx
    unfold yesK yesOf
    rw [h x hx]
  have hc : g = g ∧ ∃ k : List Bk, bksA l = bksA k ∧ k.length ≤ maxLen ∧ ∀ x ∈ k, sp ([.agg [.sl (flsA x.F) false, .sl (rowsA x.M) false]] ++ caps) A = some (.bool (yesK sp caps A x), A) := ⟨rfl, l, rfl, hl, fun x hx => by rw [hy x hx]; exact h x hx⟩
  unfold spIdxK
  dsimp only
  rw [dif_pos hc]
  have e : hc.2.choose = l := (bksA_inj.1 hc.2.choose_spec.1).symm
  rw [e]
  have : ∀ (l : List Bk) (i : Nat), (∀ x ∈ l, yesK sp caps A x = f x) → idxF (yesK sp caps A) l i = idxF f l i := by
    intro l
    induction l with
    | nil => intro _ _; rfl
    | cons x l ih => intro i h; rw [idxF, idxF, h x (List.mem_cons_self ..), ih _ fun y hy => h y (List.mem_cons_of_mem _ hy)]
  rw [this l 0 hy]
theorem QE_idxK {g : FuncId} {sp : List AV → AHeap → Option (AV × AHeap)} (hg : QE PP g sp) : QE PP 145 (spIdxK g sp) := by
  intro args A r A1 e
  unfold spIdxK at e
  split at e
  · rename_i xs g' caps
    split at e
    · rename_i hc
      obtain ⟨rfl, hx⟩ := hc
      injection e with e
      injection e with e1 e2
      subst e1; subst e2
      obtain ⟨h1, h2, h3⟩ := hx.choose_spec
      generalize hx.choose = l at h1 h2 h3
      subst h1
      refine T.of_closed (T_indexK (g := g') (caps := []) (os := []) (fun _ => true) [] (by simp) ClosedH.nil rfl (fun x hx => (by cases hx))).1 fun ho hl => ?_
      exact T_indexK (os := A.l) _ l h2 ho (by simpa [ltL, AV.lt] using hl) fun x hx => hg _ _ _ _ (h3 x hx)
    · cases e
  · cases e
theorem T_anyK {g : FuncId} {sp : List AV → AHeap → Option (AV × AHeap)} (hg : QE PP g sp) {caps : List AV} {os : List (Option (List AV))} (f : Bk → Bool) (l : List Bk) (hl : l.length ≤ maxLen) (ho : ClosedH os) (hc : ltL os.length caps = true) (hcl : looseL caps = caps)
    (hf : ∀ x ∈ l, sp ([.agg [.sl (flsA x.F) false, .sl (rowsA x.M) false]] ++ caps) ⟨os⟩ = some (.bool (f x), ⟨os⟩)) :
    T PP 102 [.sl (bksA l) false, .fn g caps] ⟨os⟩ fun r A' => r = .bool (l.any f) ∧ A' = ⟨os⟩ := by
  refine H_code (Quiet.e1 (QE_idxK hg) Quiet.nil) hmix k_slices_ContainsFunc_Simpl_Block_impl_Block rfl (fun b => b) (Nat.le_refl _) (fun _ _ => rfl) (injB_id _) (by rfl) ?_
  show wpc os.length PP _ c_slices_ContainsFunc_Simpl_Block_impl_Block (initSt [.sl (bksA l) false, .fn g caps] ⟨os⟩) _
  simp -dsimp -implicitDefEqProofs [c_slices_ContainsFunc_Simpl_Block_impl_Block, r_slices_ContainsFunc_Simpl_Block_impl_Block, hcl, spIdxK_eq f hl hf, hsub_all ho, ← idxF_ge f l 0]
open Classical in
noncomputable def spAnyK (g : FuncId) (sp : List AV → AHeap → Option (AV × AHeap)) : List AV → AHeap → Option (AV × AHeap)
  | [.sl xs false, .fn g' caps], A => if h : g' = g ∧ looseL caps = caps ∧ ∃ l : List Bk, xs = bksA l ∧ l.length ≤ maxLen ∧ ∀ x ∈ l, sp ([.agg [.sl (flsA x.F) false, .sl (rowsA x.M) false]] ++ caps) A = some (.bool (yesK sp caps A x), A)
      then some (.bool (h.2.2.choose.any (yesK sp caps A)), A) else none
  | _, _ => none
theorem spAnyK_eq {g : FuncId} {sp : List AV → AHeap → Option (AV × AHeap)} (f : Bk → Bool) {l : List Bk} {caps : List AV} {A : AHeap} (hl : l.length ≤ maxLen) (hcl : looseL caps = caps) (h : ∀ x ∈ l, sp ([.agg [.sl (flsA x.F) false, .sl (rowsA x.M) false]] ++ caps) A = some (.bool (f x), A)) :
    spAnyK g sp [.sl (bksA l) false, .fn g caps] A = some (.bool (l.any f), A) := by
  have hy : ∀ x ∈ l, yesK sp caps A x = f x := by
    intro x hx
    unfold yesK yesOf
    rw [h x hx]
  have hc : g = g ∧ looseL caps = caps ∧ ∃ k : List Bk, bksA l = bksA k ∧ k.length ≤ maxLen ∧ ∀ x ∈ k, sp ([.agg [.sl (flsA x.F) false, .sl (rowsA x.M) false]] ++ caps) A = some (.bool (yesK sp caps A x), A) := ⟨rfl, hcl, l, rfl, hl, fun x hx => by rw [hy x hx]; exact h x hx⟩
  unfold spAnyK
  dsimp only
  rw [dif_pos hc]
  have e : hc.2.2.choose = l := (bksA_inj.1 hc.2.2.choose_spec.1).symm
  rw [e]
  have : l.any (yesK sp caps A) = l.any f := by
    clear e hc h hl
    induction l with
    | nil => rfl
    | cons x l ih => rw [List.any_cons, List.any_cons, hy x (List.mem_cons_self ..), ih fun y hm => hy y (List.mem_cons_of_mem _ hm)]
  rw [this]
theorem QE_anyK {g : FuncId} {sp : List AV → AHeap → Option (AV × AHeap)} (hg : QE PP g sp) : QE PP 102 (spAnyK g sp) := by
  intro args A r A1 e
  unfold spAnyK at e
  split at e
  · rename_i xs g' caps
    split at e
    · rename_i hc
      obtain ⟨rfl, hcl, hx⟩ := hc
      injection e with e
      injection e with e1 e2
      subst e1; subst e2
      obtain ⟨h1, h2, h3⟩ := hx.choose_spec
      generalize hx.choose = l at h1 h2 h3
      subst h1
      refine T.of_closed (T_anyK hg (caps := []) (os := []) (fun _ => true) [] (by simp) ClosedH.nil rfl rfl (fun x hx => (by cases hx))).1 fun ho hl => ?_
      exact T_anyK hg (os := A.l) _ l h2 ho (by simpa [ltL, AV.lt] using hl) hcl h3
    · cases e
  · cases e


/-! ### a block by its place -/
def bkAt (L : List Bk) (i : Nat) : Bk := L.getD i ⟨[], []⟩
theorem bkAt_eq {L : List Bk} {i : Nat} (h : i < L.length) : bkAt L i = L[i] := by
  unfold bkAt
  rw [List.getD_eq_getElem?_getD, List.getElem?_eq_getElem h]; rfl
theorem famC_ok {F : List Fl} : (famC F == 0) = ((decide (1 ≤ F.length) && decide (F.length ≤ 8)) && (F.all okFl && likeB F)) := by
  unfold famC allOkF
  cases h1 : F.all okFl with
  | false => simp
  | true =>
    rw [if_pos rfl]
    by_cases h8 : 8 < F.length
    · rw [if_pos h8]
      have : ¬ F.length ≤ 8 := by omega
      simp [this]
    · rw [if_neg h8]
      have h8' : F.length ≤ 8 := by omega
      by_cases h0 : F.length = 0
      · rw [if_pos h0]
        have : ¬ 1 ≤ F.length := by omega
        simp only [this, decide_false, Bool.false_and]; rfl
      · rw [if_neg h0]
        have h0' : 1 ≤ F.length := by omega
        cases likeB F <;> simp [h0', h8']
noncomputable def sp_blockS : List AV → Option (AV) := pf (ι := (List Bk) × (Nat)) (α := AV) (fun ⟨L, i⟩ => i < L.length ∧ bkIn (bkAt L i)) (fun ⟨L, i⟩ => [.ep (.sl (bksA L) false) i 0]) (fun ⟨L, i⟩ => .bool (bkB (bkAt L i)))
theorem sp_blockS_eq (L : List Bk) (i : Nat) (h : i < L.length ∧ bkIn (bkAt L i)) : sp_blockS [.ep (.sl (bksA L) false) i 0] = some (.bool (bkB (bkAt L i))) := by
  unfold sp_blockS
  exact pf_eq (ι := (List Bk) × (Nat)) (α := AV) (L, i) h (by rintro ⟨L', i'⟩ _ e; simp_all [Int.natCast_inj])
theorem q_spec_l06Block : QP PP 142 sp_blockS := by
  refine QP_pf (fun i h => ?_) fun i h => ?_
  · obtain ⟨L, i⟩ := i; exact ⟨by first | rfl | simp, by first | rfl | simp⟩
  obtain ⟨L, i⟩ := i
  replace h : i < L.length ∧ bkIn (bkAt L i) := h
  refine P_code (Quiet.q1 q_spec_l04Family (Quiet.q1 q_spec_l02Matrix Quiet.nil)) hmix k_spec_l06Block rfl ?_ ?_
  · first | rfl | simp
  show wpc 0 PP _ c_spec_l06Block (initSt [.ep (.sl (bksA L) false) i 0] .nil) (endP r_spec_l06Block (.bool (bkB (bkAt L i))))
  obtain ⟨hi, ⟨hl, hin⟩, hml, hmr⟩ := h
  have e1 : bkAt L i = L[i] := bkAt_eq hi
  generalize hb : bkAt L i = b at *
  have hg : L[i] = b := e1.symm
  have hf := sp_family_eq b.F ⟨hl, hin⟩
  have hm := sp_matOk_eq b.M ⟨hml, hmr⟩
  have hc := famC_ok (F := b.F)
  unfold bkB
  rw [← hc]
  cases h1 : (famC b.F == 0) with
  | false =>
    simp -dsimp -implicitDefEqProofs [c_spec_l06Block, r_spec_l06Block, hi, hg, hf, h1]
  | true =>
    cases h2 : matB b.M with
    | false =>
      rw [h2] at hm
      simp -dsimp -implicitDefEqProofs [c_spec_l06Block, r_spec_l06Block, hi, hg, hf, h1, hm]
    | true =>
      rw [h2] at hm
      by_cases he : b.M.length = b.F.length
      · simp -dsimp -implicitDefEqProofs [c_spec_l06Block, r_spec_l06Block, hi, hg, hf, h1, hm, he]
      · have hei : ((b.M.length : Int) == (b.F.length : Int)) = false := by simp; omega
        have hei2 : ¬ (b.M.length : Int) = b.F.length := by omega
        simp -dsimp -implicitDefEqProofs [c_spec_l06Block, r_spec_l06Block, hi, hg, hf, h1, hm, he, hei, hei2]
abbrev bksIn (L : List Bk) : Prop := L.length ≤ maxLen ∧ ∀ b ∈ L, bkIn b
noncomputable def bksB (L : List Bk) : Bool := L.all bkB && decide (L.length ≤ 6)
theorem allK_step {F : List Bk} {p : Bk → Bool} {i : Nat} (h : i < F.length) (h1 : (F.take i).all p = true) (h2 : p F[i] = true) : (F.take (i + 1)).all p = true := by
  rw [take_snoc F i h, List.all_append, h1]
  simp [h2]
theorem allK_bad {F : List Bk} {p : Bk → Bool} {i : Nat} (h : i < F.length) (h2 : p F[i] = false) : F.all p = false := by
  rw [Bool.eq_false_iff]
  intro hh
  have := List.all_eq_true.1 hh F[i] (List.getElem_mem h)
  rw [h2] at this; cases this
noncomputable def allBk (L : List Bk) : Bool := L.all bkB
noncomputable def sp_blocksS : List AV → Option (AV) := pf (ι := (List Bk)) (α := AV) (fun L => bksIn L) (fun L => [.sl (bksA L) false]) (fun L => .bool (bksB L))
theorem sp_blocksS_eq (L : List Bk) (h : bksIn L) : sp_blocksS [.sl (bksA L) false] = some (.bool (bksB L)) := by
  unfold sp_blocksS
  exact pf_eq (ι := (List Bk)) (α := AV) L h (by rintro L' _ e; simp_all [Int.natCast_inj])
theorem q_spec_l06Blocks : QP PP 97 sp_blocksS := by
  refine QP_pf (fun L h => ?_) fun L h => ?_
  · exact ⟨by first | rfl | simp, by first | rfl | simp⟩
  replace h : bksIn L := h
  refine P_code (Quiet.q1 q_spec_l06Block Quiet.nil) hmix k_spec_l06Blocks rfl ?_ ?_
  · first | rfl | simp
  show wpc 0 PP _ c_spec_l06Blocks (initSt [.sl (bksA L) false] .nil) (endP r_spec_l06Blocks (.bool (bksB L)))
  obtain ⟨hl, hin⟩ := h
  simp only [maxLen] at hl
  have hbs : bksB L = (allBk L && decide (L.length ≤ 6)) := rfl
  rw [hbs]
  simp -dsimp -implicitDefEqProofs [c_spec_l06Blocks, r_spec_l06Blocks]
  refine wpLoop_st (fun (i : Nat) => ⟨tl [(0, .sl (bksA L) false), (3, .int .i64 i)], ⟨[]⟩⟩) (fun i => i ≤ L.length ∧ allBk (L.take i) = true) (fun i => L.length - i) 0 ⟨Nat.zero_le _, rfl⟩ (Sub.keep (by simp) (by simp [hsub]) (by simp)) ?_
  rintro i ⟨h1, h2⟩
  simp -dsimp -implicitDefEqProofs
  refine brW_of (fun h => ?_) (fun h => ?_) <;> simp only [decide_eq_true_eq, decide_eq_false_iff_not] at h
  · have hx : i < L.length := by omega
    have hwi := wrapNat (i := i) (by omega)
    have e1 : bkAt L i = L[i] := bkAt_eq hx
    have hk := sp_blockS_eq L i ⟨hx, by rw [e1]; exact hin _ (List.getElem_mem hx)⟩
    rw [e1] at hk
    cases hb : bkB L[i] with
    | false =>
      rw [hb] at hk
      have hbad : allBk L = false := allK_bad (p := bkB) hx hb
      simp -dsimp -implicitDefEqProofs [hx, hwi, hk, hbad]
    | true =>
      rw [hb] at hk
      simp -dsimp -implicitDefEqProofs [hx, hwi, hk]
      exact .mk (i + 1) ⟨by omega, allK_step (p := bkB) hx h2 hb⟩ (by omega) (Sub.keep (by simp) (by simp [hsub]) (by simp [hwi]))
  · have hii : i = L.length := by omega
    subst hii
    rw [List.take_length] at h2
    have h6 : ((L.length : Int) ≤ 6) ↔ (L.length ≤ 6) := by omega
    simp -dsimp -implicitDefEqProofs [h2, h6]
/-! ### certificates that have a text -/
noncomputable def certB (s : Int) (L : List Bk) : Bool := bksB L && (decide (0 ≤ s) && decide (s ≤ 5))
noncomputable def sp_shownS : List (Option (List AV)) → List AV → Option (AV × List (Option (List AV))) := pv (pf (ι := (Int) × (List Bk)) (α := AV × List (Option (List AV))) (fun ⟨s, L⟩ => bksIn L) (fun i => .agg (((fun ⟨s, L⟩ => [some [.int .i64 s, .sl (bksA L) false]] : (Int) × (List Bk) → List (Option (List AV))) i).map enO) :: (fun ⟨s, L⟩ => [.ptr 0 0] : (Int) × (List Bk) → List AV) i) (fun ⟨s, L⟩ => (.bool (certB s L), [some [.int .i64 s, .sl (bksA L) false]])))
theorem sp_shownS_eq (s : Int) (L : List Bk) (h : bksIn L) : sp_shownS [some [.int .i64 s, .sl (bksA L) false]] [.ptr 0 0] = some (.bool (certB s L), [some [.int .i64 s, .sl (bksA L) false]]) := by
  unfold sp_shownS pv
  exact pf_eq (ι := (Int) × (List Bk)) (α := AV × List (Option (List AV))) (s, L) h (by rintro ⟨s', L'⟩ _ e; simp_all [enO, Int.natCast_inj])
theorem v_spec_l06Shown : QV PP 45 sp_shownS := by
  refine QV_pf fun i h => ?_
  obtain ⟨s, L⟩ := i
  replace h : bksIn L := h
  refine H_code (Quiet.q1 q_spec_l06Blocks (Quiet.q1 q_spec_l00In Quiet.nil)) hmix k_spec_l06Shown rfl (fun b => b) (by simp [AHeap.n]) (fun _ _ => rfl) (by rfl) (by first | rfl | simp) ?_
  show wpc _ PP _ c_spec_l06Shown (initSt [.ptr 0 0] ⟨[some [.int .i64 s, .sl (bksA L) false]]⟩) (endH (fun b => b) r_spec_l06Shown (.bool (certB s L)) [some [.int .i64 s, .sl (bksA L) false]])
  have hk := sp_blocksS_eq L h
  unfold certB
  cases hb : bksB L <;> rw [hb] at hk <;> simp -dsimp -implicitDefEqProofs [c_spec_l06Shown, r_spec_l06Shown, hk, hsub]
theorem e_anyK_bad : QE PP 102 (spAnyK 103 (spR sp_badBlock)) := QE_anyK q_impl_badBlock.toR
noncomputable def sp_written : List AV → Option (AV) := pf (ι := (Int) × (List Bk)) (α := AV) (fun ⟨s, L⟩ => bksIn L) (fun ⟨s, L⟩ => [.agg [.int .i64 s, .sl (bksA L) false]]) (fun ⟨s, L⟩ => .bool (certB s L))
theorem sp_written_eq (s : Int) (L : List Bk) (h : bksIn L) : sp_written [.agg [.int .i64 s, .sl (bksA L) false]] = some (.bool (certB s L)) := by
  unfold sp_written
  exact pf_eq (ι := (Int) × (List Bk)) (α := AV) (s, L) h (by rintro ⟨s', L'⟩ _ e; simp_all [Int.natCast_inj])
theorem q_impl_written : QP PP 48 sp_written := by
  refine QP_pf (fun i h => ?_) fun i h => ?_
  · obtain ⟨s, L⟩ := i; exact ⟨by first | rfl | simp, by first | rfl | simp⟩
  obtain ⟨s, L⟩ := i
  replace h : bksIn L := h
  refine P_code (Quiet.q1 q_impl_in (Quiet.e1 e_anyK_bad Quiet.nil)) hmix k_impl_written rfl ?_ ?_
  · first | rfl | simp
  show wpc 0 PP _ c_impl_written (initSt [.agg [.int .i64 s, .sl (bksA L) false]] .nil) (endP r_impl_written (.bool (certB s L)))
  obtain ⟨hl, hin⟩ := h
  have hany := spAnyK_eq (g := 103) (sp := spR sp_badBlock) (fun x => !(bkB x)) (l := L) (caps := []) (A := ⟨[some [.int .i64 s, .sl (bksA L) false]]⟩) hl rfl (fun x hx => by
    have := sp_badBlock_eq x.F x.M (hin x hx)
    simp [this])
  have e1 : L.any (fun x => !(bkB x)) = !(allBk L) := by unfold allBk; rw [List.not_all_eq_any_not]
  rw [e1] at hany
  have hbs : bksB L = (allBk L && decide (L.length ≤ 6)) := rfl
  unfold certB
  rw [hbs]
  by_cases h0 : 0 ≤ s
  · by_cases h5 : s ≤ 5
    · by_cases h6 : L.length ≤ 6
      · have h6i : (L.length : Int) ≤ 6 := by omega
        cases hb : allBk L <;> rw [hb] at hany <;> simp -dsimp -implicitDefEqProofs [c_impl_written, r_impl_written, h0, h5, h6, h6i, hany]
      · have h6i : ¬ (L.length : Int) ≤ 6 := by omega
        simp -dsimp -implicitDefEqProofs [c_impl_written, r_impl_written, h0, h5, h6, h6i]
    · simp -dsimp -implicitDefEqProofs [c_impl_written, r_impl_written, h0, h5]
  · simp -dsimp -implicitDefEqProofs [c_impl_written, r_impl_written, h0]
end Go.Proofs.YtlglgcmpeabdnaaGreatDoorAi
end

section
/- Contracts: strings.Builder: WriteString and String, with all that they change. -/
namespace Go.Proofs.YtlglgcmpeabdnaaGreatDoorAi
open Go Go.RowKit Go.Shelf
set_option linter.unusedVariables false
set_option linter.unusedSimpArgs false
variable {P : Program} {ρ : Go.Shelf.Ren}

/-- Only one block, and one row, may have changed. -/
structure Chg (w w' : World) (b : Nat) (g : Option Nat) : Prop where
  os : w'.os = w.os
  tape : w'.tape = w.tape
  output : w'.output = w.output
  size : w.heap.size ≤ w'.heap.size
  block : ∀ k, k < w.heap.size → k ≠ b → some k ≠ g → w'.heap[k]? = w.heap[k]?
/-- append of a string's bytes: as in the library's law, and the row is the old one or new. -/
theorem bApp (w : World) (t u ty e : TypeId) (i : TypeInfo) (ht : P.underlying t = some (.slice e)) (hu : P.underlying u = some .string) (hi : P.info? e = some i) (hz : i.zero = some (.int .u8 0))
    (hsize : i.size = 1) (hby : i.bytes = 1) (v : Value) (n : Nat) (xs : List Value) (hown : w.ownsRow 0 e 1 v n xs) (s : ByteArray)
    (h63 : n + s.size ≤ maxLen) (hbytes : n + s.size ≤ 140737488355328) :
    ∃ v' w', (Builtin.append_ #[t, u] ty #[v, .string s]).run P w = .ok v' w' ∧ w'.ownsRow 0 e 1 v' (n + s.size) (xs ++ Lib.strCells s) ∧ w.grownBy w' v.ownBlock ∧ (v'.ownBlock = v.ownBlock ∨ v'.ownBlock = some w.heap.size) ∧ (∀ g cs, v.ownBlock = some g → w.heap[g]? = some (.cells cs e (0, 0)) → ∃ cs', w'.heap[g]? = some (.cells cs' e (0, 0)) ∧ cs'.size = cs.size) := by
  obtain ⟨v', w', hr, h2, h3, h4⟩ := Lib.run_append_own_string (P := P) w 0 t u ty e i ht hu hi hz hsize hby v n xs hown s h63 hbytes (Nat.zero_le _)
  refine ⟨v', w', hr, h2, h3, ?_⟩
  have hsmall : n + s.size ≤ 9223372036854775807 := by simp only [maxLen] at h63; omega
  have hxl : xs.length = n := by simpa using hown.1
  rcases hown.2 with ⟨rfl, rfl⟩ | ⟨g, cap, cur, rfl, hbg, hg, hnc, hcm, hcs, htake⟩
  · by_cases hm : s.size = 0
    · rw [h4.2 ⟨rfl, hm⟩]; exact ⟨.inl rfl, fun g cs hg => (by cases hg)⟩
    · have hr2 := Go.run_append_nil_string (P := P) w t u ty e i (.int .u8 0) ht hu hi hz s (by omega) (by omega) (by rw [hby]; omega)
      rw [hr] at hr2
      injection hr2 with e1 e2
      rw [e1]; exact ⟨.inr rfl, fun g cs hg => (by cases hg)⟩
  · by_cases hroom : n + s.size ≤ cap
    · have hcs' : cur.size = cap := by simpa using hcs
      have hr2 := Lib.run_append_room_string (P := P) w t u ty e i ht hu hi hsize g n cap cur hg s hroom (by omega)
      rw [hr] at hr2
      injection hr2 with e1 e2
      rw [e1]
      refine ⟨.inl rfl, fun g' cs hg1 hg2 => ?_⟩
      cases hg1
      rw [hg] at hg2
      injection hg2 with hg2; injection hg2 with hg2 _ _
      subst hg2
      rw [e2]
      refine ⟨_, setRow_heap w g cur _ e _ hg, ?_⟩
      simp only [List.size_toArray, List.length_append, List.length_take, List.length_drop, Array.length_toList, Lib.strCells_length]
      omega
    · have holds : ∀ j u, xs[j]? = some u → w.cell? ((⟨g, 0, none⟩ : Addr).add j) = some u := hown.cells (g := g) rfl
      have hr2 := Lib.run_append_grow_string (P := P) w t u ty e i (.int .u8 0) ht hu hi hz ⟨g, 0, none⟩ n cap xs (by rw [hsize]; simpa using hxl) holds s (by omega) (by omega) (by rw [hby]; exact Go.growslice_fits (by omega) (by omega))
      rw [hr] at hr2
      injection hr2 with e1 e2
      rw [e1]
      refine ⟨.inr rfl, fun g' cs hg1 hg2 => ?_⟩
      rw [e2]
      exact ⟨cs, (heap_alloc_old w.drew _ (Array.getElem?_eq_some_iff.1 hg2).1).trans hg2, rfl⟩
/-- .. behind an empty slice of no room. -/
theorem bApp0 (w : World) (t u ty e : TypeId) (i : TypeInfo) (ht : P.underlying t = some (.slice e)) (hu : P.underlying u = some .string) (hi : P.info? e = some i) (hz : i.zero = some (.int .u8 0))
    (hsize : i.size = 1) (hby : i.bytes = 1) (a : Option Addr) (s : ByteArray) (hm : s.size ≠ 0) (h63 : s.size ≤ maxLen) (hbytes : s.size ≤ 140737488355328) :
    ∃ v' w', (Builtin.append_ #[t, u] ty #[.slice a 0 0, .string s]).run P w = .ok v' w' ∧ w'.ownsRow 0 e 1 v' s.size (Lib.strCells s) ∧ w.grownBy w' none ∧ v'.ownBlock = some w.heap.size := by
  have hsmall : s.size ≤ 9223372036854775807 := by simp only [maxLen] at h63; omega
  cases a with
  | none =>
    obtain ⟨v', w', hr, h2, h3, h4, _⟩ := bApp (P := P) w t u ty e i ht hu hi hz hsize hby (.slice none 0 0) 0 [] (World.ownsRow_nil w 0 e 1) s (by omega) (by omega)
    rw [Nat.zero_add, List.nil_append] at h2
    refine ⟨v', w', hr, h2, h3, ?_⟩
    rcases h4 with h4 | h4
    · rcases h2.2 with ⟨_, hz0⟩ | ⟨g, cap, cur, rfl, _⟩
      · exact absurd hz0 hm
      · cases h4
    · exact h4
  | some ad =>
    have hr := Lib.run_append_grow_string (P := P) w t u ty e i (.int .u8 0) ht hu hi hz ad 0 0 [] (by simp) (by simp) s (by omega) (by omega) (by rw [hby]; exact Go.growslice_fits (by omega) (by omega))
    rw [Nat.zero_add] at hr
    have hge := grownCap_ge w s.size 0 e
    have hcm : grownCap w s.size 0 e ≤ maxLen := grownCap_le_maxLen w s.size 0 e h63
    refine ⟨_, _, hr, ⟨by rw [Lib.strCells_length, Nat.mul_one], .inr ⟨w.heap.size, _, _, rfl, Nat.zero_le _, heap_alloc_new w.drew _, hge, hcm, ?_, ?_⟩⟩, ⟨rfl, rfl, rfl, by simp, fun k hk _ => heap_alloc_old w.drew _ hk⟩, rfl⟩
    · have hz1 : (Value.int IntKind.u8 0).cells.size = 1 := rfl
      simp only [Array.size_append, List.size_toArray, size_zeroCells, hz1, Lib.strCells_length, List.length_nil]
      omega
    · simp only [Array.toList_append, List.nil_append]
      rw [show s.size * 1 = (Lib.strCells s).length by rw [Lib.strCells_length, Nat.mul_one]]
      exact List.take_left
theorem wpB_run {w w' : World} {ops : Array Oper} {rest : List Oper} {o : Oper} {a : Act} {Q : Exit → Act → World → Prop} (hgd : o.guard = none) (sl x : Operand) (t u : TypeId)
    (ho : o.op = .call { callee := .builtin .append, args := #[sl, x], argTypes := #[t, u] }) (v v' : Value) (hs : a.eval sl = v) (s : ByteArray) (hx : a.eval x = .string s)
    (hr : (Builtin.append_ #[t, u] 0 #[v, .string s]).run P w = .ok v' w') (h : wpList P ops Q rest (a.put o.dst v') w') : wpList P ops Q (o :: rest) a w := by
  refine wpList_plain hgd fun K hK => ?_
  have hr : (Builtin.append_ #[t, u] o.type #[v, .string s]).run P w = .ok v' w' := hr
  unfold Oper.wp execOp
  simp only [ho, resolve, invoke, builtin, Sem.run_bind, Sem.run_pure, Result.andThen_ok, List.map_toArray, List.map_cons, List.map_nil, hs, hx, hr]
  exact hK _ _ h
theorem bCheck (L : Lays.n240 P ρ) (X : Builder.X72 P ρ) (b : Nat) (p v : Value) (w : World) (hp : p = .pointer none ∨ p = .pointer (some ⟨b, 0, none⟩)) (hbk : w.heap[b]? = some (.cells #[p, v] (ρ.t 72) (0, 0))) :
    Calls P (ρ.f 240) #[.pointer (some ⟨b, 0, none⟩)] w fun e w' => e = .returned (.tuple #[]) ∧ w'.heap[b]? = some (.cells #[.pointer (some ⟨b, 0, none⟩), v] (ρ.t 72) (0, 0)) ∧ w'.heap.size = w.heap.size ∧ Chg w w' b none := by
  have c0 : w.cell? ⟨b, 0, none⟩ = some p := by rw [Lib.cell_of_heap hbk]; rfl
  rcases hp with rfl | rfl
  · refine (Any.Builder_copyCheck_fresh L X b w c0 (by simp [World.shape?, hbk]) (by simp [World.frozen?, hbk])).mono ?_
    rintro e w' ⟨rfl, rfl⟩
    exact ⟨rfl, by simp [World.setCell, Array.getElem?_modify, hbk], by simp [World.setCell], ⟨rfl, rfl, rfl, by simp [World.setCell], fun k _ hk _ => Below.heap_setCell _ _ _ _ hk⟩⟩
  · refine (Any.Builder_copyCheck_used L X b w c0).mono ?_
    rintro e w' ⟨rfl, rfl⟩
    exact ⟨rfl, hbk, rfl, ⟨rfl, rfl, rfl, Nat.le_refl _, fun _ _ _ _ => rfl⟩⟩
set_option maxHeartbeats 2000000 in
set_option maxRecDepth 100000 in
theorem bWrite (L : Lays.n166 P ρ) (X : Builder.Extra P ρ) (b : Nat) (p v : Value) (s : ByteArray) (w : World) (g : Option Nat) (m : Nat) (xs : List Value) (hp : p = .pointer none ∨ p = .pointer (some ⟨b, 0, none⟩)) (hbk : w.heap[b]? = some (.cells #[p, v] (ρ.t 72) (0, 0)))
    (hgb : g ≠ some b) (happ : ∀ w1, Chg w w1 b none → w1.heap.size = w.heap.size → ∃ v' w', (Builtin.append_ #[(ρ.t 37), (ρ.t 9)] 0 #[v, .string s]).run P w1 = .ok v' w' ∧ w'.ownsRow 0 (ρ.t 5) 1 v' m xs ∧ w1.grownBy w' g ∧ (v'.ownBlock = g ∨ v'.ownBlock = some w1.heap.size) ∧
      (∀ (g' : Nat) (cs : Array Value), g = some g' → w1.heap[g']? = some (.cells cs (ρ.t 5) (0, 0)) → ∃ (cs' : Array Value), w'.heap[g']? = some (.cells cs' (ρ.t 5) (0, 0)) ∧ cs'.size = cs.size)) :
    Calls P (ρ.f 166) #[.pointer (some ⟨b, 0, none⟩), .string s] w fun e w' => e = .returned (.tuple #[.int .i64 s.size, .nilIface]) ∧ Chg w w' b g ∧
      ∃ v', w'.heap[b]? = some (.cells #[.pointer (some ⟨b, 0, none⟩), v'] (ρ.t 72) (0, 0)) ∧ w'.ownsRow 0 (ρ.t 5) 1 v' m xs ∧ (v'.ownBlock = g ∨ ∃ k, v'.ownBlock = some k ∧ w.heap.size ≤ k) ∧
      (∀ (g' : Nat) (cs : Array Value), g = some g' → w.heap[g']? = some (.cells cs (ρ.t 5) (0, 0)) → ∃ (cs' : Array Value), w'.heap[g']? = some (.cells cs' (ρ.t 5) (0, 0)) ∧ cs'.size = cs.size) := by
  obtain ⟨i0, hi, hz0, hz1, hz2⟩ := info_parts X.infoByte
  have mixed := L.mixed
  have t72 := L.t72; have a72 := L.a72; have z72 := L.z72; have v72 := L.v72; have u72 := run_underlying L.t72
  have t70 := L.t70; have a70 := L.a70; have z70 := L.z70; have v70 := L.v70; have u70 := run_underlying L.t70
  have t37 := L.t37; have a37 := L.a37; have z37 := L.z37; have v37 := L.v37; have u37 := run_underlying L.t37
  have t3 := L.t3; have a3 := L.a3; have z3 := L.z3; have v3 := L.v3; have u3 := run_underlying L.t3
  have t9 := L.t9; have a9 := L.a9; have z9 := L.z9; have v9 := L.v9; have u9 := run_underlying L.t9
  have t4 := L.t4; have a4 := L.a4; have z4 := L.z4; have v4 := L.v4; have u4 := run_underlying L.t4
  have t164 := L.t164; have a164 := L.a164; have z164 := L.z164; have v164 := L.v164; have u164 := run_underlying L.t164
  have t5 := X.t5; have a5 := X.a5; have z5 := X.z5; have v5 := X.v5; have u5 := run_underlying X.t5
  have e240 : ∀ args w, (callFunc (ρ.f 240) args).run P w = .ok (.enter (ρ.f 240) args) w := enters_of L.f240 (by kernel_rfl) rfl
  go_enter L.f166, Body.n166_ntmps ρ
  go_wp2_with (go_at_fn (ρ.f 240); refine (bCheck { L with } X.toX72 b p v _ hp hbk).mono ?_)
  rintro e w1 ⟨rfl, hbk1, hsz1, hch⟩
  obtain ⟨v', w2, hr, hown', hgrow, hfr, hrow⟩ := happ w1 hch hsz1
  obtain ⟨ao, n', cap, rfl⟩ : ∃ ao n' cap, v' = .slice ao n' cap := by
    rcases hown'.2 with ⟨hv, _⟩ | ⟨g, cap, cur, hv, _⟩
    · exact ⟨_, _, _, hv⟩
    · exact ⟨_, _, _, hv⟩
  have c0 : w1.cell? ⟨b, 0, none⟩ = some (.pointer (some ⟨b, 0, none⟩)) := by rw [Lib.cell_of_heap hbk1]; rfl
  have c1 : w1.cell? ⟨b, 1, none⟩ = some v := by rw [Lib.cell_of_heap hbk1]; rfl
  have hlt : b < w1.heap.size := (Array.getElem?_eq_some_iff.1 hbk1).1
  have hb2 : w2.heap[b]? = some (.cells #[.pointer (some ⟨b, 0, none⟩), v] (ρ.t 72) (0, 0)) := by
    rw [hgrow.block b hlt (fun e => hgb e.symm)]
    exact hbk1
  have d0 : w2.cell? ⟨b, 0, none⟩ = some (.pointer (some ⟨b, 0, none⟩)) := by rw [Lib.cell_of_heap hb2]; rfl
  have d1 : w2.cell? ⟨b, 1, none⟩ = some v := by rw [Lib.cell_of_heap hb2]; rfl
  have f1 : w2.frozen? ⟨b, 1, none⟩ = false := Lib.frozen_of_heap hb2 1
  have hml : m = xs.length := by have := hown'.1; omega
  have hown'' : w2.ownsRow 0 (ρ.t 5) 1 (.slice ao n' cap) xs.length xs := by rw [← hml]; exact hown'
  have hne' : (Value.slice ao n' cap).ownBlock ≠ some b := Lib.ownBlock_ne hown'' hb2 X.neB5
  clear happ hml hown''
  go_wp2_with (at_builtin; refine wpB_run rfl _ _ (ρ.t 37) (ρ.t 9) rfl _ (.slice ao n' cap) rfl s rfl hr ?_)
  go_ret2
  refine ⟨rfl, ⟨hgrow.os.trans hch.os, hgrow.tape.trans hch.tape, hgrow.output.trans hch.output, ?_, fun k hk hkb hkg => ?_⟩, _, by simp [World.setCell, Array.getElem?_modify, hb2]; rfl, ?_, ?_, fun g' cs hg1 hg2 => ?_⟩
  · have := hgrow.size
    simp [World.setCell]; omega
  · rw [Below.heap_setCell _ _ _ _ hkb, hgrow.block k (by omega) hkg]
    exact hch.block k hk hkb (by simp)
  · exact hown'.kept (row := some b) ⟨rfl, rfl, rfl, by simp [World.setCell], fun k _ hk => Below.heap_setCell _ _ _ _ (fun e => hk (by simp [e]))⟩ (Or.inr hne')
  · rcases hfr with hfr | hfr
    · exact .inl hfr
    · exact .inr ⟨_, hfr, by omega⟩
  · have hgb : g' ≠ b := fun e => hgb (by rw [hg1, e])
    obtain ⟨cs', k1, k2⟩ := hrow g' cs hg1 (by rw [hch.block g' (Array.getElem?_eq_some_iff.1 hg2).1 hgb (by simp)]; exact hg2)
    exact ⟨cs', by rw [Below.heap_setCell _ _ _ _ hgb]; exact k1, k2⟩
set_option maxHeartbeats 1000000 in
set_option maxRecDepth 100000 in
theorem bString (L : Lays.n169 P ρ) (X : Builder.Extra P ρ) (b g cap : Nat) (p : Value) (cur : Array Value) (l : List UInt8) (w : World) (hbk : w.heap[b]? = some (.cells #[p, .slice (some ⟨g, 0, none⟩) l.length cap] (ρ.t 72) (0, 0))) (h0 : l ≠ [])
    (hg : w.heap[g]? = some (.cells cur (ρ.t 5) (0, 0))) (hnc : l.length ≤ cap) (hcm : cap ≤ maxLen) (hcs : cur.size = cap) (htake : cur.toList.take l.length = Lib.byteCells l) :
    Calls P (ρ.f 169) #[.pointer (some ⟨b, 0, none⟩)] w fun e w' => e = .returned (.string ⟨l.toArray⟩) ∧ Chg w w' g none ∧ ∃ fr, w'.heap[g]? = some (.cells cur (ρ.t 5) fr) := by
  have hl0 : l.length ≠ 0 := by simpa using h0
  have hown : w.ownsRow 0 (ρ.t 5) 1 (.slice (some ⟨g, 0, none⟩) l.length cap) l.length (Lib.byteCells l) := ⟨by rw [Lib.byteCells_length, Nat.mul_one], .inr ⟨g, cap, cur, rfl, Nat.zero_le _, hg, hnc, hcm, by omega, by rw [Nat.mul_one]; exact htake⟩⟩
  have c1 : w.drew.cell? ⟨b, 1, none⟩ = some (.slice (some ⟨g, 0, none⟩) l.length cap) := by
    have : w.drew.heap[b]? = some (.cells #[p, .slice (some ⟨g, 0, none⟩) l.length cap] (ρ.t 72) (0, 0)) := hbk
    rw [Lib.cell_of_heap this]; rfl
  have hSD : (Builtin.unsafeSliceData_ #[(ρ.t 37)] (ρ.t 127) #[.slice (some ⟨g, 0, none⟩) l.length cap]).run P w.drew = .ok (.pointer (some ⟨g, 0, none⟩)) w.drew :=
    Lib.run_unsafeSliceData_row _ _ _ _ _ _ (by omega)
  have hUS : (Builtin.unsafeString_ #[(ρ.t 127), (ρ.t 3)] (ρ.t 9) #[.pointer (some ⟨g, 0, none⟩), .int .i64 l.length]).run P w.drew = .ok (.string ⟨l.toArray⟩) (w.drew.freeze ⟨g, 0, none⟩ l.length) := by
    refine Lib.run_unsafeString_row w.drew (ρ.t 127) (ρ.t 3) (ρ.t 9) (ρ.t 5) L.t127 X.cellsByte g cur.size (by have hg' : w.drew.heap[g]? = some (.cells cur (ρ.t 5) (0, 0)) := hg; simp [World.shape?, hg']) l h0 (by omega) (by unfold maxLen at hcm; omega) ?_
    intro j x hx
    have := hown.cells (g := g) rfl j (.int .u8 x.toNat) (by simp [Lib.byteCells, hx])
    exact this
  have hfin : Chg w (w.drew.freeze ⟨g, 0, none⟩ l.length) g none ∧ ∃ fr, (w.drew.freeze ⟨g, 0, none⟩ l.length).heap[g]? = some (.cells cur (ρ.t 5) fr) := by
    have hg' : w.drew.heap[g]? = some (.cells cur (ρ.t 5) (0, 0)) := hg
    unfold World.freeze
    rw [if_neg hl0]
    refine ⟨⟨rfl, rfl, rfl, by simp, fun k hk hkb _ => ?_⟩, ?_⟩
    · simp only [Array.getElem?_modify]
      rw [if_neg (by omega)]
      rfl
    · simp only [Array.getElem?_modify, if_true, hg', Option.map_some]
      exact ⟨_, rfl⟩
  have mixed := L.mixed
  have t72 := L.t72; have a72 := L.a72; have z72 := L.z72; have v72 := L.v72; have u72 := run_underlying L.t72
  have t70 := L.t70; have a70 := L.a70; have z70 := L.z70; have v70 := L.v70; have u70 := run_underlying L.t70
  have t37 := L.t37; have a37 := L.a37; have z37 := L.z37; have v37 := L.v37; have u37 := run_underlying L.t37
  have t127 := L.t127; have a127 := L.a127; have z127 := L.z127; have v127 := L.v127; have u127 := run_underlying L.t127
  have t3 := L.t3; have a3 := L.a3; have z3 := L.z3; have v3 := L.v3; have u3 := run_underlying L.t3
  have t9 := L.t9; have a9 := L.a9; have z9 := L.z9; have v9 := L.v9; have u9 := run_underlying L.t9
  have t5 := X.t5; have a5 := X.a5; have z5 := X.z5; have v5 := X.v5; have u5 := run_underlying X.t5
  go_enter L.f169, Body.n169_ntmps ρ
  go_wp2
  go_region_o
  all_goals (go_wp2; go_ret; exact ⟨rfl, hfin⟩)
end Go.Proofs.YtlglgcmpeabdnaaGreatDoorAi
end

section
/- Contracts: strings.Builder as an owned object: triples of WriteString and String. -/
namespace Go.Proofs.YtlglgcmpeabdnaaGreatDoorAi
open Go Go.RowKit Go.Shelf
set_option linter.unusedVariables false
set_option linter.unusedSimpArgs false
set_option maxRecDepth 20000

def bytesA (s : ByteArray) : List AV := s.data.toList.map fun x => .int .u8 x.toNat
@[simp] theorem bytesA_len (s : ByteArray) : (bytesA s).length = s.size := by simp [bytesA]
theorem bytesA_app (a b : ByteArray) : bytesA (a ++ b) = bytesA a ++ bytesA b := by
  unfold bytesA
  rw [ByteArray.data_append, Array.toList_append, List.map_append]
def unB : List AV → Option (List UInt8)
  | [] => some []
  | .int .u8 n :: r => if 0 ≤ n ∧ n < 256 then (unB r).map (UInt8.ofNat n.toNat :: ·) else none
  | _ => none
theorem unB_map : ∀ l : List UInt8, unB (l.map fun x => AV.int .u8 x.toNat) = some l
  | [] => rfl
  | x :: r => by
    have h := x.toNat_lt
    rw [List.map_cons, unB, if_pos ⟨by omega, by omega⟩, unB_map r]
    simp
theorem unB_bytes (s : ByteArray) : unB (bytesA s) = some s.data.toList := unB_map _
theorem unB_vals {σ : Sg} : ∀ (cs : List AV) (l : List UInt8) (vs : List Value), unB cs = some l → RepL σ cs vs → vs = Lib.byteCells l
  | [], l, vs, h, hr => by
    obtain rfl : [] = l := Option.some.inj h
    have := hr.1
    cases vs with
    | nil => rfl
    | cons _ _ => simp at this
  | c :: r, l, vs, h, hr => by
    obtain ⟨v, us, rfl, h1, h2⟩ := hr.head
    unfold unB at h
    split at h
    · rename_i heq; cases heq
    · rename_i n r' heq
      injection heq with e1 e2
      subst e1; subst e2
      split at h
      · rename_i hn
        obtain ⟨l', hl', rfl⟩ := Option.map_eq_some_iff.1 h
        have ih := unB_vals r l' us hl' h2
        subst ih
        cases h1
        simp only [Lib.byteCells, List.map_cons, List.cons.injEq, and_true, Value.int.injEq, true_and]
        have : (UInt8.ofNat n.toNat).toNat = n.toNat := by simp; omega
        omega
      · cases h
    · cases h
/-! ### memory that changes in one block and one row -/
theorem Sim.chg {B : Nat → Prop} {σ : Sg} {A : AHeap} {w w' : World} (h : Sim B σ A w) {c : Nat} {g : Option Nat} (hc : Chg w w' c g) (hBc : ¬ B c) (hBg : ∀ k, g = some k → ¬ B k) (hmc : σ.mem c = none) (hmg : ∀ k, g = some k → σ.mem k = none)
    (hlive : ∀ b cs c' n, A b = some cs → σ.nm b = some (c', n) → c' ≠ c ∧ some c' ≠ g) (hsame : ∀ (k : Nat), (k = c ∨ some k = g) → ∀ (cs : Array Value) (e : TypeId) (fr : Nat × Nat), w.heap[k]? = some (.cells cs e fr) → ∃ (cs' : Array Value) (fr' : Nat × Nat), w'.heap[k]? = some (.cells cs' e fr') ∧ cs'.size = cs.size) : Sim B σ A w' := by
  have hlt : ∀ (k : Nat) (o : Obj), w.heap[k]? = some o → k < w.heap.size := fun k o e => (Array.getElem?_eq_some_iff.1 e).1
  have hblk : ∀ (k : Nat) (cs : Array Value) (e : TypeId) (fr : Nat × Nat), w.heap[k]? = some (.cells cs e fr) → ∃ (cs' : Array Value) (fr' : Nat × Nat), w'.heap[k]? = some (.cells cs' e fr') ∧ cs'.size = cs.size := fun k cs e fr hk => by
    by_cases hx : k = c ∨ some k = g
    · exact hsame k hx cs e fr hk
    · exact ⟨cs, fr, by rw [hc.block k (hlt k _ hk) (fun e => hx (.inl e)) (fun e => hx (.inr e))]; exact hk, rfl⟩
  refine ⟨fun k hk => Nat.lt_of_lt_of_le (h.base k hk) hc.size, fun b o e => ?_, h.low, fun b k n e => ?_, h.tot, fun b cs e => (h.own b cs e).same fun k n hn => ?_, h.inj, fun k e he => ?_⟩
  · have h1 := h.mem b o e
    rw [hc.block b (hlt b _ h1) (fun hb => by rw [hb, hmc] at e; cases e) (fun hb => by rw [hmg b hb.symm] at e; cases e)]
    exact h1
  · obtain ⟨h1, cs, t, fr, h2, h3⟩ := h.nm b k n e
    obtain ⟨cs', fr', h4, h5⟩ := hblk k cs t fr h2
    exact ⟨h1, cs', t, fr', h4, by rw [h5, h3]⟩
  · obtain ⟨h1, h2⟩ := hlive b cs k n e hn
    exact hc.block k (h.nmLt hn) h1 h2
  · obtain ⟨cs, fr, h2⟩ := h.ty k e he
    obtain ⟨cs', fr', h4, _⟩ := hblk k cs e fr h2
    exact ⟨cs', fr', h4⟩
theorem Chg.keeps {B : Nat → Prop} {w0 w w' : World} {c : Nat} {g : Option Nat} (hc : Chg w w' c g) (hb : Keeps B w0 w) (hlt : ∀ k, B k → k < w.heap.size) (hBc : ¬ B c) (hBg : ∀ k, g = some k → ¬ B k) : Keeps B w0 w' :=
  hb.trans ⟨hc.os, hc.tape, hc.output, hc.size, fun k hk => hc.block k (hlt k hk) (fun e => hBc (e ▸ hk)) (fun e => hBg k e.symm hk)⟩
/-- An object is owned again. -/
theorem Sim.revive {B : Nat → Prop} {σ : Sg} {A : AHeap} {w : World} (h : Sim B σ A w) {b c : Nat} {cur : Array Value} {e : TypeId} (hn : σ.nm b = some (c, cur.size)) (hB : ¬ B c) (hm : σ.mem c = none) (hh : w.heap[c]? = some (.cells cur e (0, 0)))
    (cs : List AV) (hl : cs.length ≤ cur.size) (hr : ∀ (j : Nat) x, cs[j]? = some x → ∃ v, cur[j]? = some v ∧ Rep σ x v ∧ v.oneCell' = true) (ho : ∀ b' cs' n, A b' = some cs' → σ.nm b' ≠ some (c, n)) : Sim B σ (A.set b cs) w := by
  refine ⟨h.base, h.mem, h.low, fun i c n e => by rw [AHeap.set_n]; exact h.nm i c n e, fun i hi => h.tot i (by simpa using hi), fun i ob hi => ?_, fun i i' o o' c1 n n' e1 e2 e3 e4 => ?_, h.ty⟩
  · rw [AHeap.set_at] at hi
    split at hi
    · rename_i hib
      obtain rfl := Option.some.inj hi
      rw [hib.1]
      exact ⟨c, cur, e, hn, hB, hm, hh, hl, hr⟩
    · exact h.own i ob hi
  · rw [AHeap.set_at] at e1 e2
    split at e1
    · rename_i h1
      split at e2
      · rename_i h2
        exact h1.1.trans h2.1.symm
      · rename_i h2
        rw [h1.1, hn] at e3
        injection e3 with e3; injection e3 with e3 _
        subst e3
        exact absurd e4 (ho i' o' n' e2)
    · rename_i h1
      split at e2
      · rename_i h2
        rw [h2.1, hn] at e4
        injection e4 with e4; injection e4 with e4 _
        subst e4
        exact absurd e3 (ho i o n e1)
      · exact h.inj i i' _ _ c1 n n' e1 e2 e3 e4
/-! ### WriteString -/
/-- The number of the type strings.Builder. -/
def bT : TypeId := Tryz.lays156_ren.t 72
def wsR (n : Nat) : AV := .tup [.int .i64 n, .nili]
/-- The heap behind a write: `b`'s object shows a new row. -/
def wsH (A A0 : AHeap) (b n : Nat) (cs : List AV) : AHeap := (A0.push cs).set b [.ptr b 0, .ref A.n 1 0 n .u8]
def spWS : List AV → AHeap → Option (AV × AHeap)
  | [.ep (.ptr b 0) e 0, .str s], A => if e = bT then (A b).bind fun o => match o with
      | [.nilp, .sl [] true] => if s.size ≠ 0 ∧ s.size ≤ 140737488355328 then some (wsR s.size, wsH A (A.del b) b s.size (bytesA s)) else none
      | [.ptr b' 0, .ref k 1 0 n .u8] => if b' = b ∧ k ≠ b ∧ n ≠ 0 ∧ n + s.size ≤ 140737488355328 then (A k).bind fun cs => if cs.length = n then some (wsR s.size, wsH A ((A.del b).del k) b (n + s.size) (cs ++ bytesA s)) else none else none
      | _ => none else none
  | _, _ => none
theorem bytes_rep (σ : Sg) (s : ByteArray) : RepL σ (bytesA s) (Lib.strCells s) := by
  refine ⟨by simp [Lib.strCells_length], fun i c v hc hv => ?_⟩
  simp only [bytesA, List.getElem?_map, Option.map_eq_some_iff] at hc
  obtain ⟨x, hx, rfl⟩ := hc
  simp only [Lib.strCells, List.getElem?_map, hx, Option.map_some, Option.some.injEq] at hv
  subst hv
  exact .int _ _
theorem strCells_one {s : ByteArray} : ∀ v ∈ Lib.strCells s, v.oneCell' = true := by
  intro v hv
  simp only [Lib.strCells, List.mem_map] at hv
  obtain ⟨x, _, rfl⟩ := hv
  rfl
/-- What a write leaves, in triples' words. -/
theorem ws_end {B : Nat → Prop} {w0 w w' : World} {σ : Sg} {A A0 : AHeap} (hs : Sim B σ A w) (hb : Keeps B w0 w) {b c : Nat} {g : Option Nat} {s : ByteArray} {v' : Value} {cs : List AV} {xs : List Value} (hnc : σ.nm b = some (c, 2)) (hBc : ¬ B c) (hmc : σ.mem c = none) (hBg : ∀ k, g = some k → ¬ B k) (hmg : ∀ k, g = some k → σ.mem k = none)
    (hA0 : A0.le A) (hAn : A0.n = A.n) (hbA : b < A.n) (hlive : ∀ b' cs c' n, A0 b' = some cs → σ.nm b' = some (c', n) → c' ≠ c ∧ some c' ≠ g) (hc : Chg w w' c g)
    (hsame : ∀ (k : Nat), (k = c ∨ some k = g) → ∀ (cs : Array Value) (e : TypeId) (fr : Nat × Nat), w.heap[k]? = some (.cells cs e fr) → ∃ (cs' : Array Value) (fr' : Nat × Nat), w'.heap[k]? = some (.cells cs' e fr') ∧ cs'.size = cs.size)
    {te : TypeId} (hbk : w'.heap[c]? = some (.cells #[.pointer (some ⟨c, 0, none⟩), v'] te (0, 0))) (hte : te ≠ u8T) {n : Nat} (hn : n ≠ 0) (hown : w'.ownsRow 0 u8T 1 v' n xs) (hcs : RepL σ cs xs) (hone : ∀ v ∈ xs, v.oneCell' = true)
    (hfr : v'.ownBlock = g ∨ ∃ k, v'.ownBlock = some k ∧ w.heap.size ≤ k) :
    ∃ σ', σ.Le σ' ∧ Sim B σ' (wsH A A0 b n cs) w' ∧ Keeps B w0 w' := by
  obtain ⟨g', cap, cur, rfl, _, hg', hnc', hcm, hcs', htake⟩ : ∃ g' cap cur, v' = .slice (some ⟨g', 0, none⟩) n cap ∧ 0 ≤ g' ∧ w'.heap[g']? = some (.cells cur u8T (0, 0)) ∧ n ≤ cap ∧ cap ≤ maxLen ∧ cur.size = cap * 1 ∧ cur.toList.take (n * 1) = xs := by
    rcases hown.2 with ⟨_, hz⟩ | ⟨g', cap, cur, hv, r⟩
    · exact absurd hz hn
    · exact ⟨g', cap, cur, hv, r⟩
  rw [Nat.mul_one] at hcs' htake
  have hk : Keeps B w0 w' := hc.keeps hb hs.base hBc hBg
  have h0 : Sim B σ A0 w' := (hs.drop hA0 hAn).chg hc hBc hBg hmc hmg hlive hsame
  have hfresh : ∀ k, w.heap.size ≤ k → ¬ B k ∧ σ.mem k = none ∧ ∀ b n, σ.nm b ≠ some (k, n) := fun k hk => ⟨fun hB => by have := hs.base k hB; omega, by
    cases e : σ.mem k with
    | none => rfl
    | some o => have := (Array.getElem?_eq_some_iff.1 (hs.mem _ _ e)).1; omega, fun b n e => by have := hs.nmLt e; omega⟩
  have hgg : ¬ B g' ∧ σ.mem g' = none ∧ ∀ b' cs n, A0 b' = some cs → σ.nm b' ≠ some (g', n) := by
    rcases hfr with hfr | ⟨k, hfr, hle⟩
    · have hfr : some g' = g := hfr
      exact ⟨hBg g' hfr.symm, hmg g' hfr.symm, fun b' cs n h1 h2 => (hlive b' cs g' n h1 h2).2 hfr⟩
    · have hfr : some g' = some k := hfr
      obtain rfl := Option.some.inj hfr
      obtain ⟨k1, k2, k3⟩ := hfresh g' hle
      exact ⟨k1, k2, fun b' cs n h1 h2 => k3 b' n h2⟩
  have hgc : g' ≠ c := fun e => by
    rw [e, hbk] at hg'
    injection hg' with hg'; injection hg' with _ h2 _
    exact hte h2
  have hlen : cs.length = n := by have := hcs.1; have h2 := hown.1; omega
  obtain ⟨l1, s1⟩ := h0.name (c := g') (cur := cur) (e := u8T) (cs := cs) hgg.1 hgg.2.1 hg' (by omega) (fun j x hx => by
    have hlt : j < xs.length := by rw [← hcs.1]; exact (List.getElem?_eq_some_iff.1 hx).1
    obtain ⟨u, hv⟩ : ∃ u, xs[j]? = some u := ⟨_, List.getElem?_eq_getElem hlt⟩
    refine ⟨u, ?_, hcs.2 j x _ hx hv, hone _ (List.mem_of_getElem? hv)⟩
    have h3 := hv
    rw [← htake, List.getElem?_take] at h3
    split at h3
    · rw [Array.getElem?_toList] at h3; rw [h3]
    · cases h3) hgg.2.2
  rw [hAn] at l1 s1
  obtain ⟨l2, s2⟩ := s1.withTy (c := g') (e := u8T) ⟨_, _, hg'⟩
  have hnm2 : ((σ.withNm A.n g' cur.size).withTy g' u8T).nm b = some (c, 2) := (l1.trans l2).nm b _ hnc
  have hnmN : ((σ.withNm A.n g' cur.size).withTy g' u8T).nm A.n = some (g', cur.size) := by simp [Sg.withTy, Sg.withNm]
  have s3 := s2.revive (b := b) (c := c) (cur := #[.pointer (some ⟨c, 0, none⟩), .slice (some ⟨g', 0, none⟩) n cap]) (e := te) hnm2 hBc hmc hbk [.ptr b 0, .ref A.n 1 0 n .u8] (by simp) (fun j x hx => by
    match j, hx with
    | 0, hx =>
      obtain rfl := Option.some.inj hx
      exact ⟨_, rfl, .ptr b 0 c 2 hnm2, rfl⟩
    | 1, hx =>
      obtain rfl := Option.some.inj hx
      exact ⟨_, rfl, .ref A.n 1 0 n .u8 ⟨g', 0, none⟩ cap g' cur.size hnc' hcm (fun h => by cases h) (fun _ => rfl) hnmN (by omega) (fun h => by cases h) (fun _ => ⟨by omega, by simp [Sg.withTy]⟩), rfl⟩
    | j + 2, hx => cases hx) (fun b' cs' m h1 h2 => by
    have h2 : (if b' = A.n then some (g', cur.size) else σ.nm b') = some (c, m) := h2
    split at h2
    · injection h2 with h2; injection h2 with h2 _
      exact hgc h2
    · rename_i hne
      rw [AHeap.push_at, hAn, if_neg hne] at h1
      exact (hlive b' cs' c m h1 h2).1 rfl)
  exact ⟨_, l1.trans l2, s3, hk⟩
theorem lays166 : Lays.n166 Tryz.prog Tryz.lays156_ren := { Tryz.lays156 with }
theorem lays169 : Lays.n169 Tryz.prog Tryz.lays156_ren := { Tryz.lays156 with }
theorem bT_ne : bT ≠ u8T := Tryz.Builder_Extra_156.neB5
/-- A builder's object, of which the type is known. -/
theorem bObj {B : Nat → Prop} {σ : Sg} {A : AHeap} {w : World} (hs : Sim B σ A w) {b c : Nat} {x y : AV} (hb : A b = some [x, y]) (hn : σ.nm b = some (c, 2)) (hty : σ.ty c = some bT) :
    ¬ B c ∧ σ.mem c = none ∧ ∃ p v, w.heap[c]? = some (.cells #[p, v] bT (0, 0)) ∧ Rep σ x p ∧ Rep σ y v := by
  obtain ⟨c', cur, te, k1, k2, k3, k4, k5, k6⟩ := hs.own b _ hb
  rw [hn] at k1
  injection k1 with k1; injection k1 with e1 e2
  subst e1
  obtain ⟨cs1, fr1, h4⟩ := hs.ty c _ hty
  rw [k4] at h4
  injection h4 with h4; injection h4 with _ h5 _
  subst h5
  obtain ⟨p, p1, p2, _⟩ := k6 0 x rfl
  obtain ⟨v, v1, v2, _⟩ := k6 1 y rfl
  have hc : cur = #[p, v] := by
    apply Array.ext
    · exact e2.symm
    · intro i h1 h2
      match i, h1, h2 with
      | 0, h1, h2 => rw [Array.getElem?_eq_getElem h1] at p1; simpa using Option.some.inj p1
      | 1, h1, h2 => rw [Array.getElem?_eq_getElem h1] at v1; simpa using Option.some.inj v1
      | i + 2, h1, h2 => simp at h2; omega
  subst hc
  exact ⟨k2, k3, p, v, k4, p2, v2⟩
/-- The row of a builder. -/
theorem bRow {B : Nat → Prop} {σ : Sg} {A : AHeap} {w : World} (hs : Sim B σ A w) {k n : Nat} {cs : List AV} (hk : A k = some cs) (hl : cs.length = n) (hn : n ≠ 0) {v : Value} (hr : Rep σ (.ref k 1 0 n .u8) v) :
    ∃ g cap cur sz, σ.nm k = some (g, sz) ∧ v = .slice (some ⟨g, 0, none⟩) n cap ∧ ¬ B g ∧ σ.mem g = none ∧ w.heap[g]? = some (.cells cur u8T (0, 0)) ∧ n ≤ cap ∧ cap ≤ maxLen ∧ cur.size = cap ∧ RepL σ cs (cur.toList.take n) ∧ ∀ v ∈ cur.toList.take n, v.oneCell' = true := by
  obtain ⟨ad, cap, g, sz, rfl, h1, h2, h3, h4, h5, h6, h7, h8⟩ := hr.refInv
  obtain ⟨h9, h10⟩ := h8 rfl
  obtain ⟨g', cur, te, k1, k2, k3, k4, k5, k6⟩ := hs.own k _ hk
  have k0 := h5
  rw [h5] at k1
  injection k1 with k1; injection k1 with e1 e2
  subst e1
  obtain ⟨cs1, fr1, h11⟩ := hs.ty g _ h10
  rw [k4] at h11
  injection h11 with h11; injection h11 with _ h12 _
  subst h12
  have had := h4 (by omega)
  subst had
  have hll : (cur.toList.take n).length = n := by rw [List.length_take, Array.length_toList]; omega
  have hget : ∀ (j : Nat) (u : Value), (cur.toList.take n)[j]? = some u → cur[j]? = some u := fun j u hu => by
    rw [List.getElem?_take] at hu
    split at hu
    · simpa using hu
    · cases hu
  refine ⟨g, cap, cur, sz, k0, by simp, k2, k3, k4, h1, h2, by omega, ⟨by omega, fun i c u hc hu => ?_⟩, fun u hu => ?_⟩
  · obtain ⟨u', u1, u2, _⟩ := k6 i c hc
    rw [hget i u hu] at u1
    obtain rfl := Option.some.inj u1
    exact u2
  · obtain ⟨i, hi⟩ := List.mem_iff_getElem?.1 hu
    have hlt : i < cs.length := by have := (List.getElem?_eq_some_iff.1 hi).1; omega
    obtain ⟨u', u1, _, u3⟩ := k6 i cs[i] (List.getElem?_eq_getElem hlt)
    rw [hget i u hi] at u1
    obtain rfl := Option.some.inj u1
    exact u3
theorem e_strings_Builder_WriteString : QE PP 49 spWS := by
  intro args A r A1 e
  refine ⟨⟨_, Tryz.func49, by kernel_rfl, by kernel_rfl⟩, fun B w0 σ w vs hG hb hs ha => ?_⟩
  have X := Tryz.Builder_Extra_156
  obtain ⟨i0, hi, hz0, hz1, hz2⟩ := info_parts X.infoByte
  have t37 := lays166.t37
  have t9 := lays166.t9
  unfold spWS at e
  split at e
  · rename_i b t s
    split at e
    · rename_i hbt
      replace e := Option.bind_eq_some_iff.1 e
      obtain ⟨o, ho, e⟩ := e
      obtain ⟨pv, us, rfl, r1, r2⟩ := ha.head
      obtain ⟨sv, us2, rfl, r3, r4⟩ := r2.head
      obtain rfl : us2 = [] := List.eq_nil_of_length_eq_zero r4.1.symm
      cases r3
      cases r1 with
      | eptr _ _ c hn hty =>
      rw [hbt] at hty
      have hbA : b < A.n := AHeap.lt ho
      split at e
      · split at e
        · rename_i hsz
          obtain ⟨rfl, rfl⟩ := Prod.mk.inj (Option.some.inj e)
          obtain ⟨hBc, hmc, p, v, hh, hp, hv⟩ := bObj hs ho hn hty
          cases hp
          have hv' : ∃ a, v = .slice a 0 0 := by
            cases hv with
            | slnil _ a cap h1 h2 h3 => exact ⟨a, by rw [h1 rfl]⟩
            | sl _ _ b' off s' cap val h1 h2 h3 => exact ⟨_, by rw [h3 rfl]; rfl⟩
          obtain ⟨a, rfl⟩ := hv'
          refine (bWrite lays166 X c _ _ s w none s.size (Lib.strCells s) (.inl rfl) hh (by simp) (fun w1 hc1 hsz1 => ?_)).mono ?_
          · obtain ⟨v', w', hr, h2, h3, h4⟩ := bApp0 (P := Tryz.prog) w1 _ _ 0 _ i0 t37 t9 hi hz0 hz1 hz2 a s hsz.1 (by unfold maxLen; omega) hsz.2
            exact ⟨v', w', hr, h2, h3, .inr h4, fun g' cs hg => (by cases hg)⟩
          · rintro e w' ⟨rfl, hc, v', hbk, hown, hfr, hrow⟩
            obtain ⟨σ', s1, s2, s3⟩ := ws_end (A0 := A.del b) (s := s) (te := bT) (n := s.size) (cs := bytesA s) hs hb hn hBc hmc (fun k h => (by cases h)) (fun k h => (by cases h)) (AHeap.del_le A b) (AHeap.del_n A b) hbA (fun b' cs c' m h1 h2 => ⟨fun hcc => by
              rw [AHeap.del_at] at h1
              split at h1
              · cases h1
              · rename_i hne
                subst hcc
                exact hne (hs.inj _ _ _ _ _ _ _ h1 ho h2 hn), by simp⟩) hc (fun k hk cs e fr he => by
              rcases hk with rfl | hk
              · rw [hh] at he
                injection he with he; injection he with e1 e2 e3
                subst e1; subst e2
                exact ⟨_, _, hbk, rfl⟩
              · cases hk) hbk bT_ne hsz.1 hown (bytes_rep _ _) strCells_one hfr
            exact ⟨_, _, _, σ', rfl, ⟨rfl, rfl⟩, s1, s2, .tup [.int .i64 s.size, .nili] [.int .i64 s.size, .nilIface] rfl (fun i c v h1 h2 => by
              match i, h1, h2 with
              | 0, h1, h2 => obtain rfl := Option.some.inj h1; obtain rfl := Option.some.inj h2; exact .int _ _
              | 1, h1, h2 => obtain rfl := Option.some.inj h1; obtain rfl := Option.some.inj h2; exact .nili
              | i + 2, h1, h2 => cases h1), s3⟩
        · cases e
      · rename_i b' k n
        split at e
        · rename_i hcond
          obtain ⟨hbb, hkb, hn0, hle⟩ := hcond
          obtain rfl : b = b' := hbb.symm
          replace e := Option.bind_eq_some_iff.1 e
          obtain ⟨cs, hk, e⟩ := e
          split at e
          · rename_i hlen
            obtain ⟨rfl, rfl⟩ := Prod.mk.inj (Option.some.inj e)
            obtain ⟨hBc, hmc, p, v, hh, hp, hv⟩ := bObj hs ho hn hty
            have hp' : p = .pointer (some ⟨c, 0, none⟩) := by
              cases hp with
              | ptr _ _ c2 sz h1 => rw [hn] at h1; injection h1 with h1; injection h1 with h1 _; rw [h1]
            subst hp'
            obtain ⟨g, cap, cur, sz, hnk, rfl, hBg, hmg, hg, h1, h2, h3, h4, h5⟩ := bRow hs hk hlen hn0 hv
            have hgc : g ≠ c := fun e => hkb (hs.inj _ _ _ _ _ _ _ hk ho (by rw [hnk, e]) hn)
            refine (bWrite lays166 X c _ _ s w (some g) (n + s.size) (cur.toList.take n ++ Lib.strCells s) (.inr rfl) hh (fun e => hgc (Option.some.inj e)) (fun w1 hc1 hsz1 => ?_)).mono ?_
            · have hg1 : w1.heap[g]? = some (.cells cur u8T (0, 0)) := by
                rw [hc1.block g (Array.getElem?_eq_some_iff.1 hg).1 hgc (by simp)]; exact hg
              obtain ⟨v', w', hr, h6, h7, h8, h9⟩ := bApp (P := Tryz.prog) w1 _ _ 0 _ i0 t37 t9 hi hz0 hz1 hz2 (.slice (some ⟨g, 0, none⟩) n cap) n (cur.toList.take n) ⟨by rw [List.length_take, Array.length_toList]; omega, .inr ⟨g, cap, cur, rfl, Nat.zero_le _, hg1, h1, h2, by omega, by rw [Nat.mul_one]⟩⟩ s (by unfold maxLen; omega) hle
              exact ⟨v', w', hr, h6, h7, h8, h9⟩
            · rintro e w' ⟨rfl, hc, v', hbk, hown, hfr, hrow⟩
              obtain ⟨σ', s1, s2, s3⟩ := ws_end (A0 := (A.del b).del k) (s := s) (te := bT) (n := n + s.size) (cs := cs ++ bytesA s) hs hb hn hBc hmc (fun k' h => by obtain rfl := Option.some.inj h; exact hBg) (fun k' h => by obtain rfl := Option.some.inj h; exact hmg) ((AHeap.del_le _ k).trans (AHeap.del_le A b)) (by rw [AHeap.del_n, AHeap.del_n]) hbA (fun b' cs c' m h1 h2 => by
                rw [AHeap.del_at, AHeap.del_at] at h1
                split at h1
                · cases h1
                · rename_i hne1
                  split at h1
                  · cases h1
                  · rename_i hne2
                    refine ⟨fun hcc => ?_, fun hcc => ?_⟩
                    · subst hcc
                      exact hne2 (hs.inj _ _ _ _ _ _ _ h1 ho h2 hn)
                    · obtain rfl := Option.some.inj hcc
                      exact hne1 (hs.inj _ _ _ _ _ _ _ h1 hk h2 hnk)) hc (fun k' hk' cs e fr he => by
                rcases hk' with rfl | hk'
                · rw [hh] at he
                  injection he with he; injection he with e1 e2 e3
                  subst e1; subst e2
                  exact ⟨_, _, hbk, rfl⟩
                · obtain rfl := Option.some.inj hk'
                  rw [hg] at he
                  injection he with he; injection he with e1 e2 e3
                  subst e1; subst e2
                  obtain ⟨cs', q1, q2⟩ := hrow _ _ rfl hg
                  exact ⟨cs', _, q1, q2⟩) hbk bT_ne (by omega) hown (h4.append (bytes_rep _ _)) (fun v hv => by
                rcases List.mem_append.1 hv with hv | hv
                · exact h5 v hv
                · exact strCells_one v hv) hfr
              exact ⟨_, _, _, σ', rfl, ⟨rfl, rfl⟩, s1, s2, .tup [.int .i64 s.size, .nili] [.int .i64 s.size, .nilIface] rfl (fun i c v h1 h2 => by
                match i, h1, h2 with
                | 0, h1, h2 => obtain rfl := Option.some.inj h1; obtain rfl := Option.some.inj h2; exact .int _ _
                | 1, h1, h2 => obtain rfl := Option.some.inj h1; obtain rfl := Option.some.inj h2; exact .nili
                | i + 2, h1, h2 => cases h1), s3⟩
          · cases e
        · cases e
      · cases e
    · cases e
  · cases e
/-! ### String -/
def spBS : List AV → AHeap → Option (AV × AHeap)
  | [.ep (.ptr b 0) e 0], A => if e = bT then (A b).bind fun o => match o with
      | [.ptr b' 0, .ref k 1 0 n .u8] => if b' = b ∧ k ≠ b ∧ n ≠ 0 then (A k).bind fun cs => if cs.length = n then (unB cs).map fun l => (.str ⟨l.toArray⟩, A.del k) else none else none
      | _ => none else none
  | _, _ => none
theorem e_strings_Builder_String : QE PP 53 spBS := by
  intro args A r A1 e
  refine ⟨⟨_, Tryz.func53, by kernel_rfl, by kernel_rfl⟩, fun B w0 σ w vs hG hb hs ha => ?_⟩
  have X := Tryz.Builder_Extra_156
  unfold spBS at e
  split at e
  · rename_i b t
    split at e
    · rename_i hbt
      replace e := Option.bind_eq_some_iff.1 e
      obtain ⟨o, ho, e⟩ := e
      obtain ⟨pv, us, rfl, r1, r4⟩ := ha.head
      obtain rfl : us = [] := List.eq_nil_of_length_eq_zero r4.1.symm
      cases r1 with
      | eptr _ _ c hn hty =>
      rw [hbt] at hty
      split at e
      · rename_i b' k n
        split at e
        · rename_i hcond
          obtain ⟨hbb, hkb, hn0⟩ := hcond
          obtain rfl : b = b' := hbb.symm
          replace e := Option.bind_eq_some_iff.1 e
          obtain ⟨cs, hk, e⟩ := e
          split at e
          · rename_i hlen
            replace e := Option.map_eq_some_iff.1 e
            obtain ⟨l, hl, e⟩ := e
            obtain ⟨rfl, rfl⟩ := Prod.mk.inj e
            obtain ⟨hBc, hmc, p, v, hh, hp, hv⟩ := bObj hs ho hn hty
            obtain ⟨g, cap, cur, sz, hnk, rfl, hBg, hmg, hg, h1, h2, h3, h4, h5⟩ := bRow hs hk hlen hn0 hv
            have hbl := unB_vals cs l _ hl h4
            have hll : l.length = n := by
              have := congrArg List.length hbl
              rw [Lib.byteCells_length, List.length_take, Array.length_toList] at this
              omega
            subst hll
            refine (bString lays169 X c g cap p cur l w hh (fun e => hn0 (by rw [e]; rfl)) hg h1 h2 h3 hbl).mono ?_
            rintro e w' ⟨rfl, hc, fr, hg'⟩
            refine ⟨_, _, _, σ, rfl, ⟨rfl, rfl⟩, .refl σ, (hs.drop (AHeap.del_le A k) (AHeap.del_n A k)).chg hc hBg (fun k' h => (by cases h)) hmg (fun k' h => (by cases h)) (fun b' cs c' m h1 h2 => ⟨fun hcc => ?_, by simp⟩) (fun k' hk' cs e fr' he => ?_), .str _, hc.keeps hb hs.base hBg (fun k' h => (by cases h))⟩
            · rw [AHeap.del_at] at h1
              split at h1
              · cases h1
              · rename_i hne
                subst hcc
                exact hne (hs.inj _ _ _ _ _ _ _ h1 hk h2 hnk)
            · rcases hk' with rfl | hk'
              · rw [hg] at he
                injection he with he; injection he with e1 e2 e3
                subst e1; subst e2
                exact ⟨_, _, hg', rfl⟩
              · cases hk'
          · cases e
        · cases e
      · cases e
    · cases e
  · cases e
end Go.Proofs.YtlglgcmpeabdnaaGreatDoorAi
end

section
/- MADE BY PROGRAM (wip/tools/gen.py): the abstract code of functions. -/
namespace Go.Proofs.YtlglgcmpeabdnaaGreatDoorAi
open Go AC AOp Opd
set_option linter.unusedVariables false
set_option maxRecDepth 100000
end Go.Proofs.YtlglgcmpeabdnaaGreatDoorAi
end

section
/- Contracts: texts of patterns, of the program. -/
namespace Go.Proofs.YtlglgcmpeabdnaaGreatDoorAi
open Go Go.RowKit
set_option linter.unusedVariables false
set_option linter.unusedSimpArgs false
set_option maxRecDepth 20000

@[simp] theorem bytesA_lt (n : Nat) (s : ByteArray) : ltL n (bytesA s) = true := by
  unfold bytesA
  induction s.data.toList with
  | nil => rfl
  | cons x r ih => simp [ltL, AV.lt, ih]
@[simp] theorem bytesA_ren (f : Nat → Nat) (s : ByteArray) : renL f (bytesA s) = bytesA s := by
  unfold bytesA
  induction s.data.toList with
  | nil => rfl
  | cons x r ih => simp [renL, AV.ren, ih]
@[simp] theorem bytesA_loose (s : ByteArray) : looseL (bytesA s) = bytesA s := by
  unfold bytesA
  induction s.data.toList with
  | nil => rfl
  | cons x r ih => simp [looseL, AV.loose, ih]
/-! ### a builder behind one object -/
theorem bT_eq : (85 : Nat) = bT := rfl
theorem ws_fresh (o : Option (List AV)) (s : ByteArray) : spWS [.ep (.ptr 1 0) 85 0, .str s] ⟨[o, some [.nilp, .sl [] true]]⟩ = if s.size ≠ 0 ∧ s.size ≤ 140737488355328 then some (wsR s.size, ⟨[o, some [.ptr 1 0, .ref 2 1 0 s.size .u8], some (bytesA s)]⟩) else none := by
  show (if (85 : Nat) = bT then _ else none) = _
  rw [if_pos bT_eq]; rfl
/-! ### texts -/
end Go.Proofs.YtlglgcmpeabdnaaGreatDoorAi
end

section
/- Contracts: texts of certificates. -/
namespace Go.Proofs.YtlglgcmpeabdnaaGreatDoorAi
open Go Go.RowKit
set_option linter.unusedVariables false
set_option linter.unusedSimpArgs false
set_option maxRecDepth 20000

/-! ### a builder among other objects -/
theorem ws_c1 (o0 o3 : Option (List AV)) (n : Nat) (cs : List AV) (s : ByteArray) : spWS [.ep (.ptr 1 0) 85 0, .str s] ⟨[o0, some [.ptr 1 0, .ref 2 1 0 n .u8], some cs, o3]⟩ = if n ≠ 0 ∧ n + s.size ≤ 140737488355328 ∧ cs.length = n then some (wsR s.size, ⟨[o0, some [.ptr 1 0, .ref 4 1 0 (n + s.size) .u8], none, o3, some (cs ++ bytesA s)]⟩) else none := by
  have e1 : spWS [.ep (.ptr 1 0) 85 0, .str s] ⟨[o0, some [.ptr 1 0, .ref 2 1 0 n .u8], some cs, o3]⟩ = if (1 : Nat) = 1 ∧ (2 : Nat) ≠ 1 ∧ n ≠ 0 ∧ n + s.size ≤ 140737488355328 then (if cs.length = n then some (wsR s.size, ⟨[o0, some [.ptr 1 0, .ref 4 1 0 (n + s.size) .u8], none, o3, some (cs ++ bytesA s)]⟩) else none) else none := by
    show (if (85 : Nat) = bT then _ else none) = _
    rw [if_pos bT_eq]; rfl
  rw [e1]
  by_cases h1 : n ≠ 0 ∧ n + s.size ≤ 140737488355328
  · rw [if_pos ⟨rfl, by decide, h1.1, h1.2⟩]
    by_cases h2 : cs.length = n
    · rw [if_pos h2, if_pos ⟨h1.1, h1.2, h2⟩]
    · rw [if_neg h2, if_neg fun h => h2 h.2.2]
  · rw [if_neg fun h => h1 ⟨h.2.2.1, h.2.2.2⟩, if_neg fun h => h1 ⟨h.1, h.2.1⟩]
theorem ws_c2 (o0 o3 o5 : Option (List AV)) (n : Nat) (cs : List AV) (s : ByteArray) : spWS [.ep (.ptr 1 0) 85 0, .str s] ⟨[o0, some [.ptr 1 0, .ref 4 1 0 n .u8], none, o3, some cs, o5]⟩ = if n ≠ 0 ∧ n + s.size ≤ 140737488355328 ∧ cs.length = n then some (wsR s.size, ⟨[o0, some [.ptr 1 0, .ref 6 1 0 (n + s.size) .u8], none, o3, none, o5, some (cs ++ bytesA s)]⟩) else none := by
  have e1 : spWS [.ep (.ptr 1 0) 85 0, .str s] ⟨[o0, some [.ptr 1 0, .ref 4 1 0 n .u8], none, o3, some cs, o5]⟩ = if (1 : Nat) = 1 ∧ (4 : Nat) ≠ 1 ∧ n ≠ 0 ∧ n + s.size ≤ 140737488355328 then (if cs.length = n then some (wsR s.size, ⟨[o0, some [.ptr 1 0, .ref 6 1 0 (n + s.size) .u8], none, o3, none, o5, some (cs ++ bytesA s)]⟩) else none) else none := by
    show (if (85 : Nat) = bT then _ else none) = _
    rw [if_pos bT_eq]; rfl
  rw [e1]
  by_cases h1 : n ≠ 0 ∧ n + s.size ≤ 140737488355328
  · rw [if_pos ⟨rfl, by decide, h1.1, h1.2⟩]
    by_cases h2 : cs.length = n
    · rw [if_pos h2, if_pos ⟨h1.1, h1.2, h2⟩]
    · rw [if_neg h2, if_neg fun h => h2 h.2.2]
  · rw [if_neg fun h => h1 ⟨h.2.2.1, h.2.2.2⟩, if_neg fun h => h1 ⟨h.1, h.2.1⟩]
theorem ws_c3 (o0 o3 : Option (List AV)) (n : Nat) (cs : List AV) (s : ByteArray) : spWS [.ep (.ptr 1 0) 85 0, .str s] ⟨[o0, some [.ptr 1 0, .ref 4 1 0 n .u8], none, o3, some cs]⟩ = if n ≠ 0 ∧ n + s.size ≤ 140737488355328 ∧ cs.length = n then some (wsR s.size, ⟨[o0, some [.ptr 1 0, .ref 5 1 0 (n + s.size) .u8], none, o3, none, some (cs ++ bytesA s)]⟩) else none := by
  have e1 : spWS [.ep (.ptr 1 0) 85 0, .str s] ⟨[o0, some [.ptr 1 0, .ref 4 1 0 n .u8], none, o3, some cs]⟩ = if (1 : Nat) = 1 ∧ (4 : Nat) ≠ 1 ∧ n ≠ 0 ∧ n + s.size ≤ 140737488355328 then (if cs.length = n then some (wsR s.size, ⟨[o0, some [.ptr 1 0, .ref 5 1 0 (n + s.size) .u8], none, o3, none, some (cs ++ bytesA s)]⟩) else none) else none := by
    show (if (85 : Nat) = bT then _ else none) = _
    rw [if_pos bT_eq]; rfl
  rw [e1]
  by_cases h1 : n ≠ 0 ∧ n + s.size ≤ 140737488355328
  · rw [if_pos ⟨rfl, by decide, h1.1, h1.2⟩]
    by_cases h2 : cs.length = n
    · rw [if_pos h2, if_pos ⟨h1.1, h1.2, h2⟩]
    · rw [if_neg h2, if_neg fun h => h2 h.2.2]
  · rw [if_neg fun h => h1 ⟨h.2.2.1, h.2.2.2⟩, if_neg fun h => h1 ⟨h.1, h.2.1⟩]
theorem bs_c (o0 : Option (List AV)) (n : Nat) (s : ByteArray) : spBS [.ep (.ptr 1 0) 85 0] ⟨[o0, some [.ptr 1 0, .ref 2 1 0 n .u8], some (bytesA s)]⟩ = if n ≠ 0 ∧ s.size = n then some (.str s, ⟨[o0, some [.ptr 1 0, .ref 2 1 0 n .u8], none]⟩) else none := by
  have e1 : spBS [.ep (.ptr 1 0) 85 0] ⟨[o0, some [.ptr 1 0, .ref 2 1 0 n .u8], some (bytesA s)]⟩ = if (1 : Nat) = 1 ∧ (2 : Nat) ≠ 1 ∧ n ≠ 0 then (if (bytesA s).length = n then (unB (bytesA s)).map fun l => (.str ⟨l.toArray⟩, ⟨[o0, some [.ptr 1 0, .ref 2 1 0 n .u8], none]⟩) else none) else none := by
    show (if (85 : Nat) = bT then _ else none) = _
    rw [if_pos bT_eq]; rfl
  rw [e1, unB_bytes, bytesA_len]
  by_cases h1 : n ≠ 0
  · rw [if_pos ⟨rfl, by decide, h1⟩]
    by_cases h2 : s.size = n
    · rw [if_pos h2, if_pos ⟨h1, h2⟩]
      simp
    · rw [if_neg h2, if_neg fun h => h2 h.2]
  · rw [if_neg fun h => h1 h.2.2, if_neg fun h => h1 h.1]

/-! ### texts -/
def certWB : ByteArray := ⟨#[99, 101, 114, 116, 105, 102, 105, 99, 97, 116, 101, 32]⟩
def blockWB : ByteArray := ⟨#[98, 108, 111, 99, 107, 32]⟩
def flX (x : Fl) : ByteArray := flagX x.l x.g.n x.g.e
def flsW (w : ByteArray) (F : List Fl) : ByteArray := F.foldl (fun w x => w ++ (flX x ++ lineB)) w
theorem flsW_snoc (w : ByteArray) (F : List Fl) (i : Nat) (h : i < F.length) : flsW w (F.take (i + 1)) = flsW w (F.take i) ++ (flX F[i] ++ lineB) := by
  rw [take_snoc F i h]; unfold flsW; rw [List.foldl_append]; rfl
theorem flX_size {x : Fl} (h : okFl x = true) : (flX x).size ≤ 1300 := by
  obtain ⟨h1, h2, h3⟩ := okFl_in h
  have s1 := decB_size x.l (by omega) (by omega)
  have s2 := grT_size (e := x.g.e) (n := x.g.n.toNat) (by omega)
  have s3 : flagB.size = 5 := rfl
  have s4 : sepB.size = 1 := rfl
  unfold flX flagX
  simp only [ByteArray.size_append]
  omega
theorem flsW_size (F : List Fl) (h : ∀ x ∈ F, okFl x = true) : ∀ w, w.size ≤ (flsW w F).size ∧ (flsW w F).size ≤ w.size + F.length * 1301 := by
  induction F with
  | nil => intro w; exact ⟨Nat.le_refl _, by simp [flsW]⟩
  | cons r F ih =>
    intro w
    have h1 := ih (fun y hy => h y (List.mem_cons_of_mem _ hy)) (w ++ (flX r ++ lineB))
    have h2 := flX_size (h r (List.mem_cons_self ..))
    have h3 : lineB.size = 1 := rfl
    show w.size ≤ (flsW (w ++ (flX r ++ lineB)) F).size ∧ (flsW (w ++ (flX r ++ lineB)) F).size ≤ _
    simp only [ByteArray.size_append] at h1
    rw [List.length_cons]
    omega
def blHead (F : List Fl) : ByteArray := blockWB ++ decB F.length ++ lineB
def blW (w : ByteArray) (b : Bk) : ByteArray := flsW (w ++ blHead b.F) b.F ++ matX b.M
theorem matX_size {M : List (List Fr)} (h : matB M = true) : (matX M).size ≤ 96000 := by
  have hP := matB_P h
  have := matW_size M (matP_rows hP) noB
  have s4 : noB.size = 0 := rfl
  have := hP.1
  unfold matX
  omega
structure BkOk (b : Bk) : Prop where
  n : 1 ≤ b.F.length ∧ b.F.length ≤ 8
  ok : ∀ x ∈ b.F, okFl x = true
  mat : matB b.M = true
  len : b.M.length = b.F.length
theorem bkB_ok {b : Bk} (h : bkB b = true) : BkOk b := by
  unfold bkB at h
  simp only [Bool.and_eq_true, decide_eq_true_eq] at h
  exact ⟨h.1.1, List.all_eq_true.1 h.1.2.1, h.2.1, h.2.2⟩
theorem blHead_size (F : List Fl) (h : F.length ≤ 8) : (blHead F).size ≤ 28 := by
  have s1 := decB_size F.length (by omega) (by omega)
  have s2 : blockWB.size = 6 := rfl
  have s3 : lineB.size = 1 := rfl
  unfold blHead
  simp only [ByteArray.size_append]
  omega
theorem blW_size {b : Bk} (h : BkOk b) (w : ByteArray) : w.size ≤ (blW w b).size ∧ (blW w b).size ≤ w.size + 110000 := by
  have s1 := flsW_size b.F h.ok (w ++ blHead b.F)
  have s2 := blHead_size b.F h.n.2
  have s3 := matX_size h.mat
  have s4 := h.n
  unfold blW
  simp only [ByteArray.size_append] at *
  omega
def bksW (w : ByteArray) (L : List Bk) : ByteArray := L.foldl blW w
theorem bksW_snoc (w : ByteArray) (L : List Bk) (i : Nat) (h : i < L.length) : bksW w (L.take (i + 1)) = blW (bksW w (L.take i)) L[i] := by
  rw [take_snoc L i h]; unfold bksW; rw [List.foldl_append]; rfl
theorem bksW_size (L : List Bk) (h : ∀ b ∈ L, BkOk b) : ∀ w, w.size ≤ (bksW w L).size ∧ (bksW w L).size ≤ w.size + L.length * 110000 := by
  induction L with
  | nil => intro w; exact ⟨Nat.le_refl _, by simp [bksW]⟩
  | cons r L ih =>
    intro w
    have h1 := ih (fun y hy => h y (List.mem_cons_of_mem _ hy)) (blW w r)
    have h2 := blW_size (h r (List.mem_cons_self ..)) w
    show w.size ≤ (bksW (blW w r) L).size ∧ (bksW (blW w r) L).size ≤ _
    rw [List.length_cons]
    omega
def certW0 (s : Int) (n : Nat) : ByteArray := certWB ++ decB s ++ sepB ++ decB n ++ lineB
theorem certW0_size (s : Int) (n : Nat) (h : 0 ≤ s ∧ s ≤ 5) (hn : n ≤ 6) : 14 ≤ (certW0 s n).size ∧ (certW0 s n).size ≤ 60 := by
  have s1 := decB_size s (by omega) (by omega)
  have s2 := decB_size n (by omega) (by omega)
  have s3 : certWB.size = 12 := rfl
  have s4 : lineB.size = 1 := rfl
  have s5 : sepB.size = 1 := rfl
  unfold certW0
  simp only [ByteArray.size_append]
  omega
def certT (s : Int) (L : List Bk) : ByteArray := bksW (certW0 s L.length) L
noncomputable def certTT (s : Int) (L : List Bk) : ByteArray := if certB s L = true then certT s L else noB
theorem certB_ok {s : Int} {L : List Bk} (h : certB s L = true) : (0 ≤ s ∧ s ≤ 5) ∧ L.length ≤ 6 ∧ ∀ b ∈ L, BkOk b := by
  unfold certB bksB at h
  simp only [Bool.and_eq_true, decide_eq_true_eq] at h
  exact ⟨h.2, h.1.2, fun b hb => bkB_ok (List.all_eq_true.1 h.1.1 b hb)⟩
noncomputable def sp_certText : List AV → Option (AV) := pf (ι := (Int) × (List Bk)) (α := AV) (fun ⟨s, L⟩ => bksIn L) (fun ⟨s, L⟩ => [.agg [.int .i64 s, .sl (bksA L) false]]) (fun ⟨s, L⟩ => .str (certTT s L))
theorem sp_certText_eq (s : Int) (L : List Bk) (h : bksIn L) : sp_certText [.agg [.int .i64 s, .sl (bksA L) false]] = some (.str (certTT s L)) := by
  unfold sp_certText
  exact pf_eq (ι := (Int) × (List Bk)) (α := AV) (s, L) h (by rintro ⟨s', L'⟩ _ e; simp_all [Int.natCast_inj])
set_option maxHeartbeats 2000000 in
theorem q_impl_CertificateText : QP PP 15 sp_certText := by
  refine QP_pf (fun i h => ?_) fun i h => ?_
  · obtain ⟨s, L⟩ := i; exact ⟨by first | rfl | simp, by first | rfl | simp⟩
  obtain ⟨s, L⟩ := i
  replace h : bksIn L := h
  refine P_code (Quiet.q1 q_impl_written (Quiet.q1 q_impl_decimal (Quiet.q1 q_impl_Flag_text (Quiet.q1 q_impl_matrixText (Quiet.e1 e_strings_Builder_WriteString (Quiet.e1 e_strings_Builder_String Quiet.nil)))))) hmix k_impl_CertificateText rfl ?_ ?_
  · first | rfl | simp
  show wpc 0 PP _ c_impl_CertificateText (initSt [.agg [.int .i64 s, .sl (bksA L) false]] .nil) (endP r_impl_CertificateText (.str (certTT s L)))
  have hv := sp_written_eq s L h
  unfold certTT
  cases hb : certB s L with
  | false =>
    rw [hb] at hv
    simp -dsimp -implicitDefEqProofs [c_impl_CertificateText, r_impl_CertificateText, hv, noB]
  | true =>
    rw [hb] at hv
    obtain ⟨hs, hl6, hbk⟩ := certB_ok hb
    obtain ⟨hl, hin⟩ := h
    have d1 := sp_decimal_eq s (by omega)
    have d2 := sp_decimal_eq L.length (by omega)
    have s1 := decB_size s (by omega) (by omega)
    have s2 := decB_size L.length (by omega) (by omega)
    have z1 : 12 + (decB s).size ≤ 9223372036854775807 := by omega
    have z2 : 12 + (decB s).size + 1 ≤ 9223372036854775807 := by omega
    have z3 : 12 + (decB s).size + 1 + (decB L.length).size ≤ 9223372036854775807 := by omega
    have z4 : 12 + (decB s).size + 1 + (decB L.length).size + 1 ≤ 9223372036854775807 := by omega
    have z5 : 12 + (decB s).size + 1 + (decB L.length).size + 1 ≤ 140737488355328 := by omega
    simp -dsimp -implicitDefEqProofs [c_impl_CertificateText, r_impl_CertificateText, hv, d1, d2, z1, z2, z3, z4, z5, ws_fresh, wsR]
    refine wpLoop_st (fun (i : Nat) => ⟨tl [(3, .ep (.ptr 1 0) 85 0), (25, .sl (bksA L) false), (26, .int .i64 L.length), (27, .int .i64 i)], ⟨[some [.int .i64 s, .sl (bksA L) false], some [.ptr 1 0, .ref 2 1 0 (bksW (certW0 s L.length) (L.take i)).size .u8], some (bytesA (bksW (certW0 s L.length) (L.take i)))]⟩⟩) (fun i => i ≤ L.length) (fun i => L.length - i) 0 (Nat.zero_le _) (Sub.keep (by simp) (by simp [hsub, bksW, certW0, certWB, lineB, sepB]) (by simp)) ?_
    intro i hi
    have sw := certW0_size s L.length hs hl6
    have sz := bksW_size (L.take i) (fun b hb => hbk b (List.mem_of_mem_take hb)) (certW0 s L.length)
    have stk : (L.take i).length ≤ 6 := by rw [List.length_take]; omega
    simp -dsimp -implicitDefEqProofs
    refine brW_of (fun h => ?_) (fun h => ?_) <;> simp only [decide_eq_true_eq, decide_eq_false_iff_not] at h
    · have hx : i < L.length := by omega
      have hwi := wrapNat (i := i) (by omega)
      have hsn := bksW_snoc (certW0 s L.length) L i hx
      have hbo := hbk _ (List.getElem_mem hx)
      have hbi := hin _ (List.getElem_mem hx)
      generalize hW : bksW (certW0 s L.length) (L.take i) = W at *
      generalize hz : L[i] = b at *
      have d3 := sp_decimal_eq b.F.length (by have := hbo.n; omega)
      have s3 := decB_size b.F.length (by have := hbo.n; omega) (by have := hbo.n; omega)
      have sb := blHead_size b.F hbo.n.2
      have y1 : 6 + (decB b.F.length).size ≤ 9223372036854775807 := by omega
      have y2 : 6 + (decB b.F.length).size + 1 ≤ 9223372036854775807 := by omega
      have y3 : W.size + (6 + (decB b.F.length).size + 1) ≤ 140737488355328 := by omega
      have y4 : W.size ≠ 0 := by omega
      simp -dsimp -implicitDefEqProofs [hx, hz, d3, y1, y2, y3, y4, ws_c1, wsR, ← bytesA_app]
      refine wpLoop_st (fun (k : Nat) => ⟨tl [(3, .ep (.ptr 1 0) 85 0), (5, .ptr 3 0), (25, .sl (bksA L) false), (26, .int .i64 L.length), (27, .int .i64 i), (39, .sl (flsA b.F) false), (40, .int .i64 b.F.length), (41, .int .i64 k)], ⟨[some [.int .i64 s, .sl (bksA L) false], some [.ptr 1 0, .ref 4 1 0 (flsW (W ++ blHead b.F) (b.F.take k)).size .u8], none, some [.sl (flsA b.F) false, .sl (rowsA b.M) false], some (bytesA (flsW (W ++ blHead b.F) (b.F.take k)))]⟩⟩) (fun k => k ≤ b.F.length) (fun k => b.F.length - k) 0 (Nat.zero_le _) (Sub.keep (by simp) (by simp [hsub, flsW, blHead, blockWB, lineB]) (by simp)) ?_
      intro k hk
      have sf := flsW_size (b.F.take k) (fun x hx => hbo.ok x (List.mem_of_mem_take hx)) (W ++ blHead b.F)
      have stf : (b.F.take k).length ≤ 8 := by have := hbo.n; rw [List.length_take]; omega
      have swb : (W ++ blHead b.F).size = W.size + (blHead b.F).size := ByteArray.size_append ..
      simp -dsimp -implicitDefEqProofs
      refine brW_of (fun h => ?_) (fun h => ?_) <;> simp only [decide_eq_true_eq, decide_eq_false_iff_not] at h
      · have hy : k < b.F.length := by omega
        have hwk := wrapNat (i := k) (by have := hbo.n; omega)
        have hok := hbo.ok _ (List.getElem_mem hy)
        have hfi := hbi.1.2 _ (List.getElem_mem hy)
        have hsf := flsW_snoc (W ++ blHead b.F) b.F k hy
        have hw3 := flX_size hok
        obtain ⟨o1, o2, o3⟩ := okFl_in hok
        have hf := sp_flagX_eq b.F[k].l b.F[k].g.n b.F[k].g.e ⟨o1, o3, hfi⟩
        have ef : flagX b.F[k].l b.F[k].g.n b.F[k].g.e = flX b.F[k] := rfl
        rw [ef] at hf
        generalize flsW (W ++ blHead b.F) (b.F.take k) = V at *
        generalize hq : b.F[k] = x at *
        have x1 : (flX x).size + 1 ≤ 9223372036854775807 := by omega
        have x3 : V.size + ((flX x).size + 1) ≤ 140737488355328 := by omega
        have x4 : V.size ≠ 0 := by omega
        simp -dsimp -implicitDefEqProofs [hy, hq, hf, hwk, x1, x3, x4, ws_c2, wsR, ← bytesA_app]
        exact .mk (k + 1) (by omega) (by omega) (Sub.mk' (fun b => if b = 4 then 6 else b) (by simp) (by intro b hb; simp at hb) (by rfl) (by simp [hsub, hsf, lineB]) (by simp [hwk]))
      · obtain rfl : k = b.F.length := by omega
        rw [List.take_length] at *
        have hrows := matP_rows (matB_P hbo.mat)
        have hm := sp_matX_eq b.M ⟨(matB_P hbo.mat).1, hrows⟩
        have sm := matX_size hbo.mat
        have eW : blW W b = flsW (W ++ blHead b.F) b.F ++ matX b.M := rfl
        generalize flsW (W ++ blHead b.F) b.F = V at *
        have x3 : V.size + (matX b.M).size ≤ 140737488355328 := by omega
        have x4 : V.size ≠ 0 := by omega
        rw [eW] at hsn
        simp -dsimp -implicitDefEqProofs [hm, hwi, x3, x4, ws_c3, wsR, ← bytesA_app]
        exact .mk (i + 1) (by omega) (by omega) (Sub.mk' (fun b => if b = 2 then 5 else b) (by simp) (by intro b hb; simp at hb) (by rfl) (by simp [hsub, hsn]) (by simp [hwi]))
    · obtain rfl : i = L.length := by omega
      rw [List.take_length] at *
      generalize hW : bksW (certW0 s L.length) L = W at *
      have eT : certT s L = W := hW
      have y4 : W.size ≠ 0 := by omega
      simp -dsimp -implicitDefEqProofs [bs_c, y4, eT, hsub]
end Go.Proofs.YtlglgcmpeabdnaaGreatDoorAi
end

section
/- Contracts: texts of certificates, of the reference. -/
namespace Go.Proofs.YtlglgcmpeabdnaaGreatDoorAi
open Go Go.RowKit
set_option linter.unusedVariables false
set_option linter.unusedSimpArgs false
set_option maxRecDepth 20000

noncomputable def sp_textS : List (Option (List AV)) → List AV → Option (AV × List (Option (List AV))) := pv (pf (ι := (Int) × (List Bk)) (α := AV × List (Option (List AV))) (fun ⟨s, L⟩ => bksIn L ∧ certB s L = true) (fun i => .agg (((fun ⟨s, L⟩ => [some [.int .i64 s, .sl (bksA L) false]] : (Int) × (List Bk) → List (Option (List AV))) i).map enO) :: (fun ⟨s, L⟩ => [.ptr 0 0] : (Int) × (List Bk) → List AV) i) (fun ⟨s, L⟩ => (.str (certT s L), [some [.int .i64 s, .sl (bksA L) false]])))
theorem sp_textS_eq (s : Int) (L : List Bk) (h : bksIn L ∧ certB s L = true) : sp_textS [some [.int .i64 s, .sl (bksA L) false]] [.ptr 0 0] = some (.str (certT s L), [some [.int .i64 s, .sl (bksA L) false]]) := by
  unfold sp_textS pv
  exact pf_eq (ι := (Int) × (List Bk)) (α := AV × List (Option (List AV))) (s, L) h (by rintro ⟨s', L'⟩ _ e; simp_all [enO, Int.natCast_inj])
set_option maxHeartbeats 2000000 in
theorem v_spec_l06Text : QV PP 46 sp_textS := by
  refine QV_pf fun i h => ?_
  obtain ⟨s, L⟩ := i
  replace h : bksIn L ∧ certB s L = true := h
  refine H_code (Quiet.q1 q_spec_Decimal (Quiet.q1 q_spec_FlagText (Quiet.q1 q_spec_MatrixText Quiet.nil))) hmix k_spec_l06Text rfl (fun b => b) (by simp [AHeap.n]) (fun _ _ => rfl) (by rfl) (by first | rfl | simp) ?_
  show wpc _ PP _ c_spec_l06Text (initSt [.ptr 0 0] ⟨[some [.int .i64 s, .sl (bksA L) false]]⟩) (endH (fun b => b) r_spec_l06Text (.str (certT s L)) [some [.int .i64 s, .sl (bksA L) false]])
  obtain ⟨⟨hl, hin⟩, hb⟩ := h
  obtain ⟨hs, hl6, hbk⟩ := certB_ok hb
  have d1 := sp_decS_eq s (by omega)
  have d2 := sp_decS_eq L.length (by omega)
  have s1 := decB_size s (by omega) (by omega)
  have s2 := decB_size L.length (by omega) (by omega)
  have z1 : 12 + (decB s).size ≤ 9223372036854775807 := by omega
  have z2 : 12 + (decB s).size + 1 ≤ 9223372036854775807 := by omega
  have z3 : 12 + (decB s).size + 1 + (decB L.length).size ≤ 9223372036854775807 := by omega
  have z4 : 12 + (decB s).size + 1 + (decB L.length).size + 1 ≤ 9223372036854775807 := by omega
  simp -dsimp -implicitDefEqProofs [c_spec_l06Text, r_spec_l06Text, d1, d2, z1, z2, z3, z4]
  refine wpLoop_st (fun (i : Nat) => ⟨tl [(0, .ptr 0 0), (3, .str (bksW (certW0 s L.length) (L.take i))), (4, .int .i64 i)], ⟨[some [.int .i64 s, .sl (bksA L) false]]⟩⟩) (fun i => i ≤ L.length) (fun i => L.length - i) 0 (Nat.zero_le _) (Sub.keep (by simp) (by simp [hsub]) (by simp [bksW, certW0, certWB, lineB, sepB])) ?_
  intro i hi
  have sw := certW0_size s L.length hs hl6
  have sz := bksW_size (L.take i) (fun b hb => hbk b (List.mem_of_mem_take hb)) (certW0 s L.length)
  have stk : (L.take i).length ≤ 6 := by rw [List.length_take]; omega
  simp -dsimp -implicitDefEqProofs
  refine brW_of (fun h => ?_) (fun h => ?_) <;> simp only [decide_eq_true_eq, decide_eq_false_iff_not] at h
  · have hx : i < L.length := by omega
    have hwi := wrapNat (i := i) (by omega)
    have hsn := bksW_snoc (certW0 s L.length) L i hx
    have hbo := hbk _ (List.getElem_mem hx)
    have hbi := hin _ (List.getElem_mem hx)
    generalize hW : bksW (certW0 s L.length) (L.take i) = W at *
    generalize hz : L[i] = b at *
    have d3 := sp_decS_eq b.F.length (by have := hbo.n; omega)
    have s3 := decB_size b.F.length (by have := hbo.n; omega) (by have := hbo.n; omega)
    have sb := blHead_size b.F hbo.n.2
    have y1 : 6 + (decB b.F.length).size ≤ 9223372036854775807 := by omega
    have y2 : 6 + (decB b.F.length).size + 1 ≤ 9223372036854775807 := by omega
    have y3 : W.size + (6 + (decB b.F.length).size + 1) ≤ 9223372036854775807 := by omega
    simp -dsimp -implicitDefEqProofs [hx, hz, d3, y1, y2, y3]
    refine wpLoop_st (fun (k : Nat) => ⟨tl [(0, .ptr 0 0), (3, .str (flsW (W ++ blHead b.F) (b.F.take k))), (4, .int .i64 i), (5, .int .i64 k)], ⟨[some [.int .i64 s, .sl (bksA L) false]]⟩⟩) (fun k => k ≤ b.F.length) (fun k => b.F.length - k) 0 (Nat.zero_le _) (Sub.keep (by simp) (by simp [hsub]) (by simp [flsW, blHead, blockWB, lineB])) ?_
    intro k hk
    have sf := flsW_size (b.F.take k) (fun x hx => hbo.ok x (List.mem_of_mem_take hx)) (W ++ blHead b.F)
    have stf : (b.F.take k).length ≤ 8 := by have := hbo.n; rw [List.length_take]; omega
    have swb : (W ++ blHead b.F).size = W.size + (blHead b.F).size := ByteArray.size_append ..
    simp -dsimp -implicitDefEqProofs [hx, hz]
    refine brW_of (fun h => ?_) (fun h => ?_) <;> simp only [decide_eq_true_eq, decide_eq_false_iff_not] at h
    · have hy : k < b.F.length := by omega
      have hwk := wrapNat (i := k) (by have := hbo.n; omega)
      have hok := hbo.ok _ (List.getElem_mem hy)
      have hfi := hbi.1.2 _ (List.getElem_mem hy)
      have hsf := flsW_snoc (W ++ blHead b.F) b.F k hy
      have hw3 := flX_size hok
      have hf := sp_flagText_eq b.F[k].l b.F[k].g.n b.F[k].g.e hfi
      have ef : flagT b.F[k].l b.F[k].g.n b.F[k].g.e = flX b.F[k] := by unfold flagT; rw [if_pos (show flagOk b.F[k].l b.F[k].g.n b.F[k].g.e = true from hok)]; rfl
      rw [ef] at hf
      generalize flsW (W ++ blHead b.F) (b.F.take k) = V at *
      generalize hq : b.F[k] = x at *
      have x1 : (flX x).size + 1 ≤ 9223372036854775807 := by omega
      have x3 : V.size + ((flX x).size + 1) ≤ 9223372036854775807 := by omega
      simp -dsimp -implicitDefEqProofs [hx, hz, hy, hq, hf, hwk, x1, x3]
      exact .mk (k + 1) (by omega) (by omega) (Sub.keep (by simp) (by simp [hsub]) (by simp [hwk, hsf, lineB]))
    · obtain rfl : k = b.F.length := by omega
      rw [List.take_length] at *
      have hm := sp_matText_eq b.M hbi.2
      have em : matT b.M = matX b.M := by unfold matT; rw [if_pos hbo.mat]
      rw [em] at hm
      have sm := matX_size hbo.mat
      have eW : blW W b = flsW (W ++ blHead b.F) b.F ++ matX b.M := rfl
      generalize flsW (W ++ blHead b.F) b.F = V at *
      have x3 : V.size + (matX b.M).size ≤ 9223372036854775807 := by omega
      rw [eW] at hsn
      simp -dsimp -implicitDefEqProofs [hx, hz, hm, hwi, x3]
      exact .mk (i + 1) (by omega) (by omega) (Sub.keep (by simp) (by simp [hsub]) (by simp [hwi, hsn]))
  · obtain rfl : i = L.length := by omega
    rw [List.take_length] at *
    simp -dsimp -implicitDefEqProofs [certT, hsub]
theorem q_spec_CertificateText : QP PP 13 sp_certText := by
  refine QP_pf (fun i h => ?_) fun i h => ?_
  · obtain ⟨s, L⟩ := i; exact ⟨by first | rfl | simp, by first | rfl | simp⟩
  obtain ⟨s, L⟩ := i
  replace h : bksIn L := h
  refine P_code (Quiet.e1 v_spec_l06Shown.toE (Quiet.e1 v_spec_l06Text.toE Quiet.nil)) hmix k_spec_CertificateText rfl ?_ ?_
  · first | rfl | simp
  show wpc 0 PP _ c_spec_CertificateText (initSt [.agg [.int .i64 s, .sl (bksA L) false]] .nil) (endP r_spec_CertificateText (.str (certTT s L)))
  have hv := sp_shownS_eq s L h
  unfold certTT
  cases hb : certB s L with
  | false =>
    rw [hb] at hv
    simp -dsimp -implicitDefEqProofs [c_spec_CertificateText, r_spec_CertificateText, hv, noB]
  | true =>
    rw [hb] at hv
    have ht := sp_textS_eq s L ⟨h, hb⟩
    simp -dsimp -implicitDefEqProofs [c_spec_CertificateText, r_spec_CertificateText, hv, ht]
end Go.Proofs.YtlglgcmpeabdnaaGreatDoorAi
end

section
/- Law: MatrixText. -/
namespace Go.Proofs.YtlglgcmpeabdnaaGreatDoorAi
open Go Go.RowKit
set_option linter.unusedVariables false
set_option linter.unusedSimpArgs false
set_option maxRecDepth 20000

def szM : List (List Fr) → Int → Int
  | [], n => n
  | r :: M, n => if (r.length : Int) ≤ n then szM M (n - r.length) else -1
theorem szM_le : ∀ (M : List (List Fr)) (n : Int), 0 ≤ szM M n → ∀ r ∈ M, (r.length : Int) ≤ n
  | [], _, _ => fun r hr => by cases hr
  | x :: M, n, h => by
    intro r hr
    rw [szM] at h
    split at h
    · rename_i hx
      rcases List.mem_cons.1 hr with rfl | hr
      · exact hx
      · have := szM_le M _ h r hr
        omega
    · omega
noncomputable def sp_szFractionSS : List AV → Option (AV) := pf (ι := (List (List Fr)) × (Int)) (α := AV) (fun ⟨M, n⟩ => 0 ≤ n ∧ n ≤ 1048576 ∧ M.length ≤ maxLen ∧ ∀ r ∈ M, r.length ≤ maxLen) (fun ⟨M, n⟩ => [.sl (rowsA M) false, .int .i64 n]) (fun ⟨M, n⟩ => .int .i64 (if (M.length : Int) ≤ n then szM M (n - M.length) else -1))
theorem sp_szFractionSS_eq (M : List (List Fr)) (n : Int) (h : 0 ≤ n ∧ n ≤ 1048576 ∧ M.length ≤ maxLen ∧ ∀ r ∈ M, r.length ≤ maxLen) : sp_szFractionSS [.sl (rowsA M) false, .int .i64 n] = some (.int .i64 (if (M.length : Int) ≤ n then szM M (n - M.length) else -1)) := by
  unfold sp_szFractionSS
  exact pf_eq (ι := (List (List Fr)) × (Int)) (α := AV) (M, n) h (by rintro ⟨M', n'⟩ _ e; simp_all [Int.natCast_inj])
theorem q_laws_szFractionSS : QP PP 141 sp_szFractionSS := by
  refine QP_pf (fun i h => ?_) fun i h => ?_
  · obtain ⟨M, n⟩ := i; exact ⟨by first | rfl | simp, by first | rfl | simp⟩
  obtain ⟨M, n⟩ := i
  replace h : 0 ≤ n ∧ n ≤ 1048576 ∧ M.length ≤ maxLen ∧ ∀ r ∈ M, r.length ≤ maxLen := h
  refine P_code (Quiet.q1 q_laws_szFractionS Quiet.nil) hmix k_laws_szFractionSS rfl ?_ ?_
  · first | rfl | simp
  show wpc 0 PP _ c_laws_szFractionSS (initSt [.sl (rowsA M) false, .int .i64 n] .nil) (endP r_laws_szFractionSS (.int .i64 (if (M.length : Int) ≤ n then szM M (n - M.length) else -1)))
  obtain ⟨h0, h1, hl, hr⟩ := h
  have hw : IntKind.i64.wrap (n - M.length) = n - M.length := wrapI64 (by simp only [maxLen] at hl; omega) (by omega)
  by_cases hlt : (M.length : Int) ≤ n
  · have h2 : ¬ (n - (M.length : Int) < 0) := by omega
    rw [if_pos hlt]
    simp -dsimp -implicitDefEqProofs [c_laws_szFractionSS, r_laws_szFractionSS, hw, h2]
    refine wpLoop_st (fun (q : Nat × Int) => ⟨tl [(0, .sl (rowsA M) false), (1, .int .i64 q.2), (5, .int .i64 q.1)], ⟨[]⟩⟩) (fun q => q.1 ≤ M.length ∧ (0 ≤ q.2 ∧ q.2 ≤ 1048576) ∧ szM (M.drop q.1) q.2 = szM M (n - M.length)) (fun q => M.length - q.1) (0, n - M.length) ⟨by simp, by simp only; omega, rfl⟩ (Sub.keep (by simp) (by simp [hsub]) (by simp)) ?_
    rintro ⟨i, m⟩ ⟨hi, hm, hs⟩
    simp only at hi hm hs
    simp -dsimp -implicitDefEqProofs
    refine brW_of (fun h => ?_) (fun h => ?_) <;> simp only [decide_eq_true_eq, decide_eq_false_iff_not] at h
    · have hx : i < M.length := by omega
      have hwi := wrapNat (i := i) (by omega)
      have hz := sp_szFractionS_eq M[i] m ⟨hm.1, hm.2, hr _ (List.getElem_mem hx)⟩
      rw [drop_cons hx, szM] at hs
      by_cases hc : (M[i].length : Int) ≤ m
      · rw [if_pos hc] at hz hs
        have h3 : ¬ (m - (M[i].length : Int) < 0) := by omega
        simp -dsimp -implicitDefEqProofs [hx, hwi, hz, h3]
        exact .mk (i + 1, m - M[i].length) ⟨by simp only; omega, by simp only; omega, hs⟩ (by simp only; omega) (Sub.keep (by simp) (by simp [hsub]) (by simp [hwi]))
      · rw [if_neg hc] at hz hs
        simp -dsimp -implicitDefEqProofs [hx, hz, ← hs]
    · have : i = M.length := by omega
      subst this
      rw [List.drop_length, szM] at hs
      simp -dsimp -implicitDefEqProofs [hs]
  · have h2 : n - (M.length : Int) < 0 := by omega
    rw [if_neg hlt]
    simp -dsimp -implicitDefEqProofs [c_laws_szFractionSS, r_laws_szFractionSS, hw, h2]
theorem rowsA_cells (M : List (List Fr)) : ∀ x ∈ rowsA M, x.cells.length = 1 ∧ ltL 0 x.cells = true := by
  intro x hx
  obtain ⟨p, _, rfl⟩ := List.mem_map.1 hx
  exact ⟨rfl, by simp⟩
noncomputable def sp_toFractionSS : List AV → Option (AV) := pf (ι := (List (List Fr))) (α := AV) (fun M => M.length ≤ 1048576 ∧ ∀ r ∈ M, r.length ≤ 1048576) (fun M => [.sl (rowsA M) false]) (fun M => .sl (rowsA M) false)
theorem sp_toFractionSS_eq (M : List (List Fr)) (h : M.length ≤ 1048576 ∧ ∀ r ∈ M, r.length ≤ 1048576) : sp_toFractionSS [.sl (rowsA M) false] = some (.sl (rowsA M) false) := by
  unfold sp_toFractionSS
  exact pf_eq (ι := (List (List Fr))) (α := AV) M h (by rintro M' _ e; simp_all [Int.natCast_inj])
theorem q_laws_toFractionSS : QP PP 144 sp_toFractionSS := by
  refine QP_pf (fun M h => ?_) fun M h => ?_
  · exact ⟨by first | rfl | simp, by first | rfl | simp⟩
  replace h : M.length ≤ 1048576 ∧ ∀ r ∈ M, r.length ≤ 1048576 := h
  refine P_code (Quiet.q1 q_laws_toFractionS Quiet.nil) hmix k_laws_toFractionSS rfl ?_ ?_
  · first | rfl | simp
  show wpc 0 PP _ c_laws_toFractionSS (initSt [.sl (rowsA M) false] .nil) (endP r_laws_toFractionSS (.sl (rowsA M) false))
  obtain ⟨hl, hr⟩ := h
  have hm : (M.length : Int) * 25 ≤ (mostBytes : Int) := by simp only [mostBytes]; omega
  simp -dsimp -implicitDefEqProofs [c_laws_toFractionSS, r_laws_toFractionSS, hm]
  refine wpLoop_st (fun (i : Nat × List AV) => ⟨tl [(0, .sl (rowsA M) false), (3, .ref 0 1 0 M.length .tight), (4, .int .i64 i.1)], ⟨[some i.2]⟩⟩) (fun i => i.1 ≤ M.length ∧ Filled 1 i.2 (rowsA M) i.1 ∧ ltL 0 i.2 = true) (fun i => M.length - i.1) (0, newCells 1 M.length [.sl [] true])
    ⟨Nat.zero_le _, Filled.zero (by simp [newCells, flat_len]), newCells_lt 1 M.length (by simp)⟩ (Sub.keep (by simp) (by
      have := newCells_lt (n := 1) 1 M.length (z := [.sl [] true]) (by simp)
      simp [hsub, renL_id] at this ⊢
      exact this) (by simp)) ?_
  rintro ⟨i, cs⟩ ⟨h1, h2, h3⟩
  simp -dsimp -implicitDefEqProofs
  refine brW_of (fun h => ?_) (fun h => ?_) <;> simp only [decide_eq_true_eq, decide_eq_false_iff_not] at h
  · have hi : i < M.length := by omega
    have hw := wrapNat (i := i) (by omega)
    have hlc0 : cs.length = M.length * 1 := by have := h2.len; rw [mapA_length] at this; exact this
    have hlc : cs.length = M.length := by omega
    have hfit : i * 1 + 1 ≤ cs.length := by omega
    have hfit' : i + 1 ≤ cs.length := by omega
    have hfit2 : i < cs.length := by omega
    have hto := sp_toFractionS_eq M[i] (hr _ (List.getElem_mem hi))
    simp -dsimp -implicitDefEqProofs [hi, hfit, hfit', hfit2, hw, hto]
    refine .mk (i + 1, setCells cs (i * 1) (rowA M[i]).cells) ⟨by simp only; omega, h2.step (by simp [hi]) rfl, setCells_lt _ _ _ h3 (by simp)⟩ (by simp only; omega) (Sub.keep (by simp) ?_ (by simp))
    have := setCells_lt (n := 1) _ (i * 1) (rowA M[i]).cells (ltL_mono (Nat.zero_le 1) _ h3) (by simp)
    simp [hsub, renL_id, setCells] at this ⊢
    exact this
  · have hi : i = M.length := by omega
    subst hi
    simp -dsimp -implicitDefEqProofs
    have h2' : Filled 1 cs (rowsA M) (rowsA M).length := by rw [mapA_length]; exact h2
    have hlc0 : cs.length = M.length * 1 := by have := h2.len; rw [mapA_length] at this; exact this
    have hlc : cs.length = M.length := by omega
    refine ⟨_, Shift.tmp (k := 2) (b := 0) (e := 1) (o := 0) (n := M.length) (xs := rowsA M) (t' := false) (t := .tight) (cs := cs) (by simp -dsimp) (by simp -dsimp) (by simp) (by omega) (by simp) (rowsA_cells M) (.inl (by rw [h2'.all (fun x hx => (rowsA_cells M x hx).1) (by omega)]; simp [← hlc])), ?_⟩
    simp -dsimp -implicitDefEqProofs
noncomputable def sp_eqFractionSS : List AV → Option (AV) := pf (ι := (List (List Fr)) × (List (List Fr))) (α := AV) (fun ⟨M, K⟩ => M.length ≤ maxLen ∧ ∀ r ∈ M, r.length ≤ maxLen) (fun ⟨M, K⟩ => [.sl (rowsA M) false, .sl (rowsA K) false]) (fun ⟨M, K⟩ => .bool (decide (M = K)))
theorem sp_eqFractionSS_eq (M K : List (List Fr)) (h : M.length ≤ maxLen ∧ ∀ r ∈ M, r.length ≤ maxLen) : sp_eqFractionSS [.sl (rowsA M) false, .sl (rowsA K) false] = some (.bool (decide (M = K))) := by
  unfold sp_eqFractionSS
  exact pf_eq (ι := (List (List Fr)) × (List (List Fr))) (α := AV) (M, K) h (by rintro ⟨M', K'⟩ _ e; simp_all [Int.natCast_inj])
theorem q_laws_eqFractionSS : QP PP 23 sp_eqFractionSS := by
  refine QP_pf (fun i h => ?_) fun i h => ?_
  · obtain ⟨M, K⟩ := i; exact ⟨by first | rfl | simp, by first | rfl | simp⟩
  obtain ⟨M, K⟩ := i
  replace h : M.length ≤ maxLen ∧ ∀ r ∈ M, r.length ≤ maxLen := h
  refine P_code (Quiet.q1 q_laws_eqFractionS Quiet.nil) hmix k_laws_eqFractionSS rfl ?_ ?_
  · first | rfl | simp
  show wpc 0 PP _ c_laws_eqFractionSS (initSt [.sl (rowsA M) false, .sl (rowsA K) false] .nil) (endP r_laws_eqFractionSS (.bool (decide (M = K))))
  obtain ⟨h, hr⟩ := h
  simp only [maxLen] at h
  by_cases hlen : M.length = K.length
  · simp -dsimp -implicitDefEqProofs [c_laws_eqFractionSS, r_laws_eqFractionSS, hlen]
    refine wpLoop_st (fun (i : Nat) => ⟨tl [(0, .sl (rowsA M) false), (1, .sl (rowsA K) false), (5, .int .i64 i)], ⟨[]⟩⟩) (fun i => i ≤ M.length ∧ M.take i = K.take i) (fun i => M.length - i) 0 ⟨Nat.zero_le _, rfl⟩ (Sub.keep (by simp) (by simp [hsub]) (by simp)) ?_
    rintro i ⟨h1, h2⟩
    simp -dsimp -implicitDefEqProofs
    refine brW_of (fun h => ?_) (fun h => ?_) <;> simp only [decide_eq_true_eq, decide_eq_false_iff_not] at h
    · have hi : i < M.length := by omega
      have hj : i < K.length := by omega
      have hw := wrapNat (i := i) (by omega)
      have hq := sp_eqFractionS_eq M[i] K[i] (hr _ (List.getElem_mem hi))
      by_cases he : M[i] = K[i]
      · rw [decide_eq_true he] at hq
        simp -dsimp -implicitDefEqProofs [hi, hj, hw, hq]
        exact .mk (i + 1) ⟨by omega, by rw [take_snoc M i hi, take_snoc K i hj, h2, he]⟩ (by omega) (Sub.keep (by simp) (by simp [hsub]) (by simp [hw]))
      · have hne : ¬ M = K := fun e => he (by subst e; rfl)
        rw [decide_eq_false he] at hq
        simp -dsimp -implicitDefEqProofs [hi, hj, hw, hne, hq]
    · have hi : i = M.length := by omega
      have he : M = K := by
        rw [hi, List.take_length, hlen, List.take_length] at h2
        exact h2
      simp -dsimp -implicitDefEqProofs [he]
  · have hne : ¬ M = K := fun e => hlen (by rw [e])
    have hln : ((M.length : Int) != (K.length : Int)) = true := by simp; omega
    simp -dsimp -implicitDefEqProofs [c_laws_eqFractionSS, r_laws_eqFractionSS, hln, hne]
theorem wt_listQ {α : Type} {f : α → AV} {p : α → Prop} {t : Ty} (hf : ∀ y, WtV t y → ∃ x, y = f x ∧ p x) : ∀ {xs : List AV}, (∀ y ∈ xs, WtV t y) → ∃ l, xs = mapA f l ∧ ∀ x ∈ l, p x
  | [], _ => ⟨[], rfl, fun x hx => (by cases hx)⟩
  | x :: xs, h => by
    obtain ⟨l, hl, hp⟩ := wt_listQ hf fun y hy => h y (List.mem_cons_of_mem _ hy)
    obtain ⟨z, hz, hq⟩ := hf x (h x (List.mem_cons_self ..))
    refine ⟨z :: l, by rw [hz, hl]; rfl, fun y hy => ?_⟩
    rcases List.mem_cons.1 hy with rfl | hy
    · exact hq
    · exact hp y hy
abbrev tyRow : Ty := .sl tyFr
abbrev tyMat : Ty := .sl tyRow
theorem wt_row : ∀ y, WtV tyRow y → ∃ r, y = rowA r ∧ r.length ≤ maxLen := by
  intro y hy
  obtain ⟨xs, rfl, hl, hx⟩ := (WtV_sl tyFr y).1 hy
  obtain ⟨r, rfl⟩ := wt_list (t := tyFr) wt_fr hx
  exact ⟨r, rfl, by simpa using hl⟩
end Go.Proofs.YtlglgcmpeabdnaaGreatDoorAi
end

section
/- The law of EvenPattern. -/
namespace Go.Proofs.YtlglgcmpeabdnaaGreatDoorAi
open Go Go.RowKit
set_option linter.unusedVariables false
set_option linter.unusedSimpArgs false
set_option maxRecDepth 20000

@[simp] theorem evenL_len (n : Int) : (evenL n).length = n.toNat := by simp [evenL]
end Go.Proofs.YtlglgcmpeabdnaaGreatDoorAi
end

section
/- MADE BY PROGRAM (wip/tools/gen.py): the abstract code of functions. -/
namespace Go.Proofs.YtlglgcmpeabdnaaGreatDoorAi
open Go AC AOp Opd
set_option linter.unusedVariables false
set_option maxRecDepth 100000
def c_laws_eqFlag : AC := seq (reg [⟨(some 2), box 3 (t 0), none⟩, ⟨(some 3), box 3 (t 1), none⟩, ⟨(some 4), mv (c (.bool false)), none⟩]) (seq (seq (reg [⟨(some 5), fad (t 2) 0, none⟩, ⟨(some 6), ld (t 5) 1 false, none⟩, ⟨(some 7), fad (t 3) 0, none⟩, ⟨(some 8), ld (t 7) 1 false, none⟩, ⟨(some 9), bin .neq (t 6) (t 8), none⟩]) (cond (t 9) (seq (reg [⟨(some 4), mv (c (.bool false)), none⟩]) (ret)) (skip))) (seq (seq (reg [⟨(some 10), fad (t 2) 1, none⟩, ⟨(some 11), ld (t 10) 2 true, none⟩, ⟨(some 12), fad (t 3) 1, none⟩, ⟨(some 13), ld (t 12) 2 true, none⟩, ⟨(some 14), callq (c (.fn 40 [])) [t 11, t 13], none⟩, ⟨(some 15), un .not (t 14), none⟩]) (cond (t 15) (seq (reg [⟨(some 4), mv (c (.bool false)), none⟩]) (ret)) (skip))) (seq (reg [⟨(some 4), mv (c (.bool true)), none⟩]) (ret))))
def r_laws_eqFlag : List ARes := [.tmp 4]
theorem k_laws_eqFlag : acLin Go.Proofs.Tryz.prog 179 2 (inQ [40] []) [] = some (c_laws_eqFlag, r_laws_eqFlag) := by kernel_rfl
end Go.Proofs.YtlglgcmpeabdnaaGreatDoorAi
end

section
/- Contracts: equality of flags. -/
namespace Go.Proofs.YtlglgcmpeabdnaaGreatDoorAi
open Go Go.RowKit
set_option linter.unusedVariables false
set_option linter.unusedSimpArgs false
set_option maxRecDepth 20000

noncomputable def sp_eqFlag : List AV → Option (AV) := pf (ι := (Int) × (Int) × (Int) × (Int) × (Int) × (Int)) (α := AV) (fun ⟨k, n, e, k', n', e'⟩ => True) (fun ⟨k, n, e, k', n', e'⟩ => [.agg [.int .i64 k, .int .i64 n, .int .u32 e], .agg [.int .i64 k', .int .i64 n', .int .u32 e']]) (fun ⟨k, n, e, k', n', e'⟩ => .bool (k == k' && (n == n' && e == e')))
theorem sp_eqFlag_eq (k n e k' n' e' : Int) : sp_eqFlag [.agg [.int .i64 k, .int .i64 n, .int .u32 e], .agg [.int .i64 k', .int .i64 n', .int .u32 e']] = some (.bool (k == k' && (n == n' && e == e'))) := by
  unfold sp_eqFlag
  exact pf_eq (ι := (Int) × (Int) × (Int) × (Int) × (Int) × (Int)) (α := AV) (k, n, e, k', n', e') trivial (by rintro ⟨k', n', e', k'', n'', e''⟩ _ e; simp_all [Int.natCast_inj])
attribute [simp] sp_eqFlag_eq
theorem q_laws_eqFlag : QP PP 179 sp_eqFlag := by
  refine QP_pf (fun i h => ?_) fun i h => ?_
  · obtain ⟨k, n, e, k', n', e'⟩ := i; exact ⟨by first | rfl | simp, by first | rfl | simp⟩
  obtain ⟨k, n, e, k', n', e'⟩ := i
  replace h : True := h
  refine P_code (Quiet.q1 q_laws_eqGraph Quiet.nil) hmix k_laws_eqFlag rfl ?_ ?_
  · first | rfl | simp
  show wpc 0 PP _ c_laws_eqFlag (initSt [.agg [.int .i64 k, .int .i64 n, .int .u32 e], .agg [.int .i64 k', .int .i64 n', .int .u32 e']] .nil) (endP r_laws_eqFlag (.bool (k == k' && (n == n' && e == e'))))
  cases h1 : (k == k') <;> cases h2 : (n == n') <;> cases h3 : (e == e')
  all_goals
    have h1' : (k != k') = !(k == k') := rfl
    rw [h1] at h1'
    simp -dsimp -implicitDefEqProofs [c_laws_eqFlag, r_laws_eqFlag, h1, h1', h2, h3]
end Go.Proofs.YtlglgcmpeabdnaaGreatDoorAi
end

section
/- MADE BY PROGRAM (wip/tools/gen.py): the abstract code of functions. -/
namespace Go.Proofs.YtlglgcmpeabdnaaGreatDoorAi
open Go AC AOp Opd
set_option linter.unusedVariables false
set_option maxRecDepth 100000
def c_laws_szFlagS : AC := seq (reg [⟨(some 4), mv (c (.int .i64 0)), none⟩]) (seq (reg [⟨(some 5), mv (t 1), none⟩, ⟨(some 6), mv (t 0), none⟩, ⟨(some 7), len (t 6), none⟩, ⟨(some 8), bin .sub (t 5) (t 7), none⟩, ⟨(some 1), mv (t 8), none⟩]) (seq (seq (reg [⟨(some 9), mv (t 1), none⟩, ⟨(some 10), bin .lss (t 9) (c (.int .i64 0)), none⟩]) (cond (t 10) (seq (reg [⟨(some 4), mv (c (.int .i64 (-1))), none⟩]) (ret)) (skip))) (seq (reg [⟨(some 11), mv (t 1), none⟩, ⟨(some 4), mv (t 11), none⟩]) (ret))))
def r_laws_szFlagS : List ARes := [.tmp 4]
theorem k_laws_szFlagS : acLin Go.Proofs.Tryz.prog 140 2 (inQ [] []) [] = some (c_laws_szFlagS, r_laws_szFlagS) := by kernel_rfl
def c_laws_szBlock : AC := seq (reg [⟨(some 2), box 2 (t 0), none⟩, ⟨(some 4), mv (c (.int .i64 0)), none⟩]) (seq (reg [⟨(some 5), fad (t 2) 0, none⟩, ⟨(some 6), ld (t 5) 1 false, none⟩, ⟨(some 7), mv (t 1), none⟩, ⟨(some 8), callq (c (.fn 140 [])) [t 6, t 7], none⟩, ⟨(some 1), mv (t 8), none⟩]) (seq (seq (reg [⟨(some 9), mv (t 1), none⟩, ⟨(some 10), bin .lss (t 9) (c (.int .i64 0)), none⟩]) (cond (t 10) (seq (reg [⟨(some 4), mv (c (.int .i64 (-1))), none⟩]) (ret)) (skip))) (seq (reg [⟨(some 11), fad (t 2) 1, none⟩, ⟨(some 12), ld (t 11) 1 false, none⟩, ⟨(some 13), mv (t 1), none⟩, ⟨(some 14), callq (c (.fn 141 [])) [t 12, t 13], none⟩, ⟨(some 1), mv (t 14), none⟩]) (seq (seq (reg [⟨(some 15), mv (t 1), none⟩, ⟨(some 16), bin .lss (t 15) (c (.int .i64 0)), none⟩]) (cond (t 16) (seq (reg [⟨(some 4), mv (c (.int .i64 (-1))), none⟩]) (ret)) (skip))) (seq (reg [⟨(some 17), mv (t 1), none⟩, ⟨(some 4), mv (t 17), none⟩]) (ret))))))
def r_laws_szBlock : List ARes := [.tmp 4]
theorem k_laws_szBlock : acLin Go.Proofs.Tryz.prog 96 2 (inQ [140, 141] []) [] = some (c_laws_szBlock, r_laws_szBlock) := by kernel_rfl
def c_laws_szBlockS : AC := seq (reg [⟨(some 4), mv (c (.int .i64 0)), none⟩]) (seq (reg [⟨(some 6), mv (t 1), none⟩, ⟨(some 7), mv (t 0), none⟩, ⟨(some 8), len (t 7), none⟩, ⟨(some 9), bin .sub (t 6) (t 8), none⟩, ⟨(some 1), mv (t 9), none⟩]) (seq (seq (reg [⟨(some 10), mv (t 1), none⟩, ⟨(some 11), bin .lss (t 10) (c (.int .i64 0)), none⟩]) (cond (t 11) (seq (reg [⟨(some 4), mv (c (.int .i64 (-1))), none⟩]) (ret)) (skip))) (seq (seq (reg [⟨(some 5), mv (c (.int .i64 0)), none⟩]) (block 0 (loop (seq (seq (reg [⟨(some 12), mv (t 5), none⟩, ⟨(some 13), mv (t 0), none⟩, ⟨(some 14), len (t 13), none⟩, ⟨(some 15), bin .lss (t 12) (t 14), none⟩]) (cond (t 15) (skip) (exit 0))) (seq (block 1 (seq (reg [⟨(some 18), mv (t 0), none⟩, ⟨(some 19), mv (t 5), none⟩, ⟨(some 20), iad 2 (t 18) (t 19), none⟩, ⟨(some 21), ld (t 20) 2 true, none⟩, ⟨(some 22), mv (t 1), none⟩, ⟨(some 23), callq (c (.fn 96 [])) [t 21, t 22], none⟩, ⟨(some 1), mv (t 23), none⟩]) (seq (reg [⟨(some 24), mv (t 1), none⟩, ⟨(some 25), bin .lss (t 24) (c (.int .i64 0)), none⟩]) (cond (t 25) (seq (reg [⟨(some 4), mv (c (.int .i64 (-1))), none⟩]) (ret)) (skip))))) (reg [⟨(some 16), mv (t 5), none⟩, ⟨(some 17), bin .add (t 16) (c (.int .i64 1)), none⟩, ⟨(some 5), mv (t 17), none⟩])))))) (seq (reg [⟨(some 26), mv (t 1), none⟩, ⟨(some 4), mv (t 26), none⟩]) (ret)))))
def r_laws_szBlockS : List ARes := [.tmp 4]
theorem k_laws_szBlockS : acLin Go.Proofs.Tryz.prog 44 2 (inQ [96] []) [] = some (c_laws_szBlockS, r_laws_szBlockS) := by kernel_rfl
def c_laws_szCertificate : AC := seq (reg [⟨(some 2), box 2 (t 0), none⟩, ⟨(some 4), mv (c (.int .i64 0)), none⟩]) (seq (reg [⟨(some 5), fad (t 2) 1, none⟩, ⟨(some 6), ld (t 5) 1 false, none⟩, ⟨(some 7), mv (t 1), none⟩, ⟨(some 8), callq (c (.fn 44 [])) [t 6, t 7], none⟩, ⟨(some 1), mv (t 8), none⟩]) (seq (seq (reg [⟨(some 9), mv (t 1), none⟩, ⟨(some 10), bin .lss (t 9) (c (.int .i64 0)), none⟩]) (cond (t 10) (seq (reg [⟨(some 4), mv (c (.int .i64 (-1))), none⟩]) (ret)) (skip))) (seq (reg [⟨(some 11), mv (t 1), none⟩, ⟨(some 4), mv (t 11), none⟩]) (ret))))
def r_laws_szCertificate : List ARes := [.tmp 4]
theorem k_laws_szCertificate : acLin Go.Proofs.Tryz.prog 12 2 (inQ [44] []) [] = some (c_laws_szCertificate, r_laws_szCertificate) := by kernel_rfl
def c_laws_toFlagS : AC := seq (reg [⟨(some 2), mv (c (.sl [] true)), none⟩]) (seq (reg [⟨(some 5), mv (t 0), none⟩, ⟨(some 6), len (t 5), none⟩, ⟨(some 7), mks 3 24 [.int .i64 0, .int .i64 0, .int .u32 0] (t 6) (t 6), none⟩, ⟨(some 3), mv (t 7), none⟩]) (seq (seq (reg [⟨(some 4), mv (c (.int .i64 0)), none⟩]) (block 0 (loop (seq (seq (reg [⟨(some 8), mv (t 4), none⟩, ⟨(some 9), mv (t 0), none⟩, ⟨(some 10), len (t 9), none⟩, ⟨(some 11), bin .lss (t 8) (t 10), none⟩]) (cond (t 11) (skip) (exit 0))) (seq (block 1 (reg [⟨(some 14), mv (t 3), none⟩, ⟨(some 15), mv (t 4), none⟩, ⟨(some 16), mv (t 0), none⟩, ⟨(some 17), mv (t 4), none⟩, ⟨(some 18), iad 3 (t 16) (t 17), none⟩, ⟨(some 19), ld (t 18) 3 true, none⟩, ⟨(some 20), callq (c (.fn 171 [])) [t 19], none⟩, ⟨(some 21), iad 3 (t 14) (t 15), none⟩, ⟨none, st (t 21) 3 (t 20), none⟩])) (reg [⟨(some 12), mv (t 4), none⟩, ⟨(some 13), bin .add (t 12) (c (.int .i64 1)), none⟩, ⟨(some 4), mv (t 13), none⟩])))))) (seq (reg [⟨(some 22), mv (t 3), none⟩, ⟨(some 2), mv (t 22), none⟩]) (seq shift (ret)))))
def r_laws_toFlagS : List ARes := [.tmp 2]
theorem k_laws_toFlagS : acLin Go.Proofs.Tryz.prog 143 1 (inQ [171] []) [⟨false, none, [], [], none⟩, ⟨false, none, [], [], none⟩, ⟨false, none, [], [], none⟩, ⟨false, none, [], [], none⟩, ⟨false, none, [], [], none⟩, ⟨false, none, [], [], none⟩, ⟨false, none, [], [], none⟩, ⟨false, none, [], [], none⟩, ⟨true, none, [], [], none⟩] = some (c_laws_toFlagS, r_laws_toFlagS) := by kernel_rfl
def c_laws_toBlock : AC := seq (reg [⟨(some 1), box 2 (t 0), none⟩, ⟨(some 2), alloc [.sl [] true, .sl [] true], none⟩]) (seq (reg [⟨(some 3), alloc [.sl [] true, .sl [] true], none⟩]) (seq (reg [⟨(some 4), fad (t 1) 0, none⟩, ⟨(some 5), ld (t 4) 1 false, none⟩, ⟨(some 6), callq (c (.fn 143 [])) [t 5], none⟩, ⟨(some 7), fad (t 3) 0, none⟩, ⟨none, st (t 7) 1 (t 6), none⟩]) (seq (reg [⟨(some 8), fad (t 1) 1, none⟩, ⟨(some 9), ld (t 8) 1 false, none⟩, ⟨(some 10), callq (c (.fn 144 [])) [t 9], none⟩, ⟨(some 11), fad (t 3) 1, none⟩, ⟨none, st (t 11) 1 (t 10), none⟩]) (seq (reg [⟨(some 12), ld (t 3) 2 true, none⟩, ⟨none, st (t 2) 2 (t 12), none⟩]) (ret)))))
def r_laws_toBlock : List ARes := [.cell 2 2 true]
theorem k_laws_toBlock : acLin Go.Proofs.Tryz.prog 101 1 (inQ [143, 144] []) [] = some (c_laws_toBlock, r_laws_toBlock) := by kernel_rfl
def c_laws_toBlockS : AC := seq (reg [⟨(some 2), mv (c (.sl [] true)), none⟩]) (seq (reg [⟨(some 5), mv (t 0), none⟩, ⟨(some 6), len (t 5), none⟩, ⟨(some 7), mks 2 48 [.sl [] true, .sl [] true] (t 6) (t 6), none⟩, ⟨(some 3), mv (t 7), none⟩]) (seq (seq (reg [⟨(some 4), mv (c (.int .i64 0)), none⟩]) (block 0 (loop (seq (seq (reg [⟨(some 8), mv (t 4), none⟩, ⟨(some 9), mv (t 0), none⟩, ⟨(some 10), len (t 9), none⟩, ⟨(some 11), bin .lss (t 8) (t 10), none⟩]) (cond (t 11) (skip) (exit 0))) (seq (block 1 (reg [⟨(some 14), mv (t 3), none⟩, ⟨(some 15), mv (t 4), none⟩, ⟨(some 16), mv (t 0), none⟩, ⟨(some 17), mv (t 4), none⟩, ⟨(some 18), iad 2 (t 16) (t 17), none⟩, ⟨(some 19), ld (t 18) 2 true, none⟩, ⟨(some 20), callq (c (.fn 101 [])) [t 19], none⟩, ⟨(some 21), iad 2 (t 14) (t 15), none⟩, ⟨none, st (t 21) 2 (t 20), none⟩])) (reg [⟨(some 12), mv (t 4), none⟩, ⟨(some 13), bin .add (t 12) (c (.int .i64 1)), none⟩, ⟨(some 4), mv (t 13), none⟩])))))) (seq (reg [⟨(some 22), mv (t 3), none⟩, ⟨(some 2), mv (t 22), none⟩]) (seq shift (ret)))))
def r_laws_toBlockS : List ARes := [.tmp 2]
theorem k_laws_toBlockS : acLin Go.Proofs.Tryz.prog 47 1 (inQ [101] []) [⟨false, none, [], [], none⟩, ⟨false, none, [], [], none⟩, ⟨false, none, [], [], none⟩, ⟨false, none, [], [], none⟩, ⟨false, none, [], [], none⟩, ⟨false, none, [], [], none⟩, ⟨false, none, [], [], none⟩, ⟨false, none, [], [], none⟩, ⟨true, none, [], [], none⟩] = some (c_laws_toBlockS, r_laws_toBlockS) := by kernel_rfl
def c_laws_toCertificate : AC := seq (reg [⟨(some 1), box 2 (t 0), none⟩, ⟨(some 2), alloc [.int .i64 0, .sl [] true], none⟩]) (seq (reg [⟨(some 3), alloc [.int .i64 0, .sl [] true], none⟩]) (seq (reg [⟨(some 4), fad (t 1) 0, none⟩, ⟨(some 5), ld (t 4) 1 false, none⟩, ⟨(some 6), fad (t 3) 0, none⟩, ⟨none, st (t 6) 1 (t 5), none⟩]) (seq (reg [⟨(some 7), fad (t 1) 1, none⟩, ⟨(some 8), ld (t 7) 1 false, none⟩, ⟨(some 9), callq (c (.fn 47 [])) [t 8], none⟩, ⟨(some 10), fad (t 3) 1, none⟩, ⟨none, st (t 10) 1 (t 9), none⟩]) (seq (reg [⟨(some 11), ld (t 3) 2 true, none⟩, ⟨none, st (t 2) 2 (t 11), none⟩]) (ret)))))
def r_laws_toCertificate : List ARes := [.cell 2 2 true]
theorem k_laws_toCertificate : acLin Go.Proofs.Tryz.prog 14 1 (inQ [47] []) [] = some (c_laws_toCertificate, r_laws_toCertificate) := by kernel_rfl
def c_laws_eqFlagS : AC := seq (reg [⟨(some 4), mv (c (.bool false)), none⟩]) (seq (seq (reg [⟨(some 6), mv (t 0), none⟩, ⟨(some 7), len (t 6), none⟩, ⟨(some 8), mv (t 1), none⟩, ⟨(some 9), len (t 8), none⟩, ⟨(some 10), bin .neq (t 7) (t 9), none⟩]) (cond (t 10) (seq (reg [⟨(some 4), mv (c (.bool false)), none⟩]) (ret)) (skip))) (seq (seq (reg [⟨(some 5), mv (c (.int .i64 0)), none⟩]) (block 0 (loop (seq (seq (reg [⟨(some 11), mv (t 5), none⟩, ⟨(some 12), mv (t 0), none⟩, ⟨(some 13), len (t 12), none⟩, ⟨(some 14), bin .lss (t 11) (t 13), none⟩]) (cond (t 14) (skip) (exit 0))) (seq (block 1 (seq (reg [⟨(some 17), mv (t 0), none⟩, ⟨(some 18), mv (t 5), none⟩, ⟨(some 19), iad 3 (t 17) (t 18), none⟩, ⟨(some 20), ld (t 19) 3 true, none⟩, ⟨(some 21), mv (t 1), none⟩, ⟨(some 22), mv (t 5), none⟩, ⟨(some 23), iad 3 (t 21) (t 22), none⟩, ⟨(some 24), ld (t 23) 3 true, none⟩, ⟨(some 25), callq (c (.fn 179 [])) [t 20, t 24], none⟩, ⟨(some 26), un .not (t 25), none⟩]) (cond (t 26) (seq (reg [⟨(some 4), mv (c (.bool false)), none⟩]) (ret)) (skip)))) (reg [⟨(some 15), mv (t 5), none⟩, ⟨(some 16), bin .add (t 15) (c (.int .i64 1)), none⟩, ⟨(some 5), mv (t 16), none⟩])))))) (seq (reg [⟨(some 4), mv (c (.bool true)), none⟩]) (ret))))
def r_laws_eqFlagS : List ARes := [.tmp 4]
theorem k_laws_eqFlagS : acLin Go.Proofs.Tryz.prog 149 2 (inQ [179] []) [⟨false, none, [], [], none⟩, ⟨false, none, [], [], none⟩, ⟨false, none, [], [], none⟩, ⟨false, none, [], [], none⟩, ⟨false, none, [], [], none⟩, ⟨false, none, [], [], none⟩, ⟨false, none, [], [], none⟩, ⟨false, some [0, 1, 2, 3, 4, 5, 6, 7, 8, 9], [], [], none⟩] = some (c_laws_eqFlagS, r_laws_eqFlagS) := by kernel_rfl
def c_laws_eqBlock : AC := seq (reg [⟨(some 2), box 2 (t 0), none⟩, ⟨(some 3), box 2 (t 1), none⟩, ⟨(some 4), mv (c (.bool false)), none⟩]) (seq (seq (reg [⟨(some 5), fad (t 2) 0, none⟩, ⟨(some 6), ld (t 5) 1 false, none⟩, ⟨(some 7), fad (t 3) 0, none⟩, ⟨(some 8), ld (t 7) 1 false, none⟩, ⟨(some 9), callq (c (.fn 149 [])) [t 6, t 8], none⟩, ⟨(some 10), un .not (t 9), none⟩]) (cond (t 10) (seq (reg [⟨(some 4), mv (c (.bool false)), none⟩]) (ret)) (skip))) (seq (seq (reg [⟨(some 11), fad (t 2) 1, none⟩, ⟨(some 12), ld (t 11) 1 false, none⟩, ⟨(some 13), fad (t 3) 1, none⟩, ⟨(some 14), ld (t 13) 1 false, none⟩, ⟨(some 15), calle (c (.fn 23 [])) [t 12, t 14] [], none⟩, ⟨(some 16), un .not (t 15), none⟩]) (cond (t 16) (seq (reg [⟨(some 4), mv (c (.bool false)), none⟩]) (ret)) (skip))) (seq (reg [⟨(some 4), mv (c (.bool true)), none⟩]) (ret))))
def r_laws_eqBlock : List ARes := [.tmp 4]
theorem k_laws_eqBlock : acLin Go.Proofs.Tryz.prog 106 2 (inQ [149] [23]) [] = some (c_laws_eqBlock, r_laws_eqBlock) := by kernel_rfl
def c_laws_eqBlockS : AC := seq (reg [⟨(some 4), mv (c (.bool false)), none⟩]) (seq (seq (reg [⟨(some 6), mv (t 0), none⟩, ⟨(some 7), len (t 6), none⟩, ⟨(some 8), mv (t 1), none⟩, ⟨(some 9), len (t 8), none⟩, ⟨(some 10), bin .neq (t 7) (t 9), none⟩]) (cond (t 10) (seq (reg [⟨(some 4), mv (c (.bool false)), none⟩]) (ret)) (skip))) (seq (seq (reg [⟨(some 5), mv (c (.int .i64 0)), none⟩]) (block 0 (loop (seq (seq (reg [⟨(some 11), mv (t 5), none⟩, ⟨(some 12), mv (t 0), none⟩, ⟨(some 13), len (t 12), none⟩, ⟨(some 14), bin .lss (t 11) (t 13), none⟩]) (cond (t 14) (skip) (exit 0))) (seq (block 1 (seq (reg [⟨(some 17), mv (t 0), none⟩, ⟨(some 18), mv (t 5), none⟩, ⟨(some 19), iad 2 (t 17) (t 18), none⟩, ⟨(some 20), ld (t 19) 2 true, none⟩, ⟨(some 21), mv (t 1), none⟩, ⟨(some 22), mv (t 5), none⟩, ⟨(some 23), iad 2 (t 21) (t 22), none⟩, ⟨(some 24), ld (t 23) 2 true, none⟩, ⟨(some 25), callq (c (.fn 106 [])) [t 20, t 24], none⟩, ⟨(some 26), un .not (t 25), none⟩]) (cond (t 26) (seq (reg [⟨(some 4), mv (c (.bool false)), none⟩]) (ret)) (skip)))) (reg [⟨(some 15), mv (t 5), none⟩, ⟨(some 16), bin .add (t 15) (c (.int .i64 1)), none⟩, ⟨(some 5), mv (t 16), none⟩])))))) (seq (reg [⟨(some 4), mv (c (.bool true)), none⟩]) (ret))))
def r_laws_eqBlockS : List ARes := [.tmp 4]
theorem k_laws_eqBlockS : acLin Go.Proofs.Tryz.prog 54 2 (inQ [106] []) [⟨false, none, [], [], none⟩, ⟨false, none, [], [], none⟩, ⟨false, none, [], [], none⟩, ⟨false, none, [], [], none⟩, ⟨false, none, [], [], none⟩, ⟨false, none, [], [], none⟩, ⟨false, none, [], [], none⟩, ⟨false, some [0, 1, 2, 3, 4, 5, 6, 7, 8, 9], [], [], none⟩] = some (c_laws_eqBlockS, r_laws_eqBlockS) := by kernel_rfl
def c_laws_eqCertificate : AC := seq (reg [⟨(some 2), box 2 (t 0), none⟩, ⟨(some 3), box 2 (t 1), none⟩, ⟨(some 4), mv (c (.bool false)), none⟩]) (seq (seq (reg [⟨(some 5), fad (t 2) 0, none⟩, ⟨(some 6), ld (t 5) 1 false, none⟩, ⟨(some 7), fad (t 3) 0, none⟩, ⟨(some 8), ld (t 7) 1 false, none⟩, ⟨(some 9), bin .neq (t 6) (t 8), none⟩]) (cond (t 9) (seq (reg [⟨(some 4), mv (c (.bool false)), none⟩]) (ret)) (skip))) (seq (seq (reg [⟨(some 10), fad (t 2) 1, none⟩, ⟨(some 11), ld (t 10) 1 false, none⟩, ⟨(some 12), fad (t 3) 1, none⟩, ⟨(some 13), ld (t 12) 1 false, none⟩, ⟨(some 14), callq (c (.fn 54 [])) [t 11, t 13], none⟩, ⟨(some 15), un .not (t 14), none⟩]) (cond (t 15) (seq (reg [⟨(some 4), mv (c (.bool false)), none⟩]) (ret)) (skip))) (seq (reg [⟨(some 4), mv (c (.bool true)), none⟩]) (ret))))
def r_laws_eqCertificate : List ARes := [.tmp 4]
theorem k_laws_eqCertificate : acLin Go.Proofs.Tryz.prog 16 2 (inQ [54] []) [] = some (c_laws_eqCertificate, r_laws_eqCertificate) := by kernel_rfl
def c_laws_FnExactCertificateText : AC := seq (reg [⟨(some 1), box 2 (t 0), none⟩, ⟨(some 2), mv (c (.bool false)), none⟩]) (seq (reg [⟨(some 3), mv (c (.int .i64 1048576)), none⟩]) (seq (reg [⟨(some 7), ld (t 1) 2 true, none⟩, ⟨(some 8), mv (t 3), none⟩, ⟨(some 9), callq (c (.fn 12 [])) [t 7, t 8], none⟩, ⟨(some 3), mv (t 9), none⟩]) (seq (seq (reg [⟨(some 10), mv (t 3), none⟩, ⟨(some 11), bin .lss (t 10) (c (.int .i64 0)), none⟩]) (cond (t 11) (seq (reg [⟨(some 2), mv (c (.bool true)), none⟩]) (ret)) (skip))) (seq (reg [⟨(some 12), ld (t 1) 2 true, none⟩, ⟨(some 13), callq (c (.fn 14 [])) [t 12], none⟩, ⟨(some 14), callq (c (.fn 13 [])) [t 13], none⟩, ⟨(some 4), mv (t 14), none⟩]) (seq (reg [⟨(some 15), ld (t 1) 2 true, none⟩, ⟨(some 16), callq (c (.fn 14 [])) [t 15], none⟩, ⟨(some 5), alloc [.int .i64 0, .sl [] true], none⟩, ⟨none, st (t 5) 2 (t 16), none⟩]) (seq (reg [⟨(some 17), ld (t 5) 2 true, none⟩, ⟨(some 18), callq (c (.fn 15 [])) [t 17], none⟩, ⟨(some 6), mv (t 18), none⟩]) (seq (seq (reg [⟨(some 19), mv (t 6), none⟩, ⟨(some 20), mv (t 4), none⟩, ⟨(some 21), bin .neq (t 19) (t 20), none⟩]) (cond (t 21) (seq (reg [⟨(some 2), mv (c (.bool false)), none⟩]) (ret)) (skip))) (seq (seq (reg [⟨(some 22), ld (t 5) 2 true, none⟩, ⟨(some 23), ld (t 1) 2 true, none⟩, ⟨(some 24), callq (c (.fn 14 [])) [t 23], none⟩, ⟨(some 25), callq (c (.fn 16 [])) [t 22, t 24], none⟩, ⟨(some 26), un .not (t 25), none⟩]) (cond (t 26) (seq (reg [⟨(some 2), mv (c (.bool false)), none⟩]) (ret)) (skip))) (seq (reg [⟨(some 2), mv (c (.bool true)), none⟩]) (ret))))))))))
def r_laws_FnExactCertificateText : List ARes := [.tmp 2]
theorem k_laws_FnExactCertificateText : acLin Go.Proofs.Tryz.prog 4 1 (inQ [12, 13, 14, 15, 16] []) [⟨false, none, [], [], none⟩, ⟨false, none, [], [], none⟩, ⟨false, none, [], [], none⟩, ⟨false, none, [], [], none⟩, ⟨false, none, [], [], none⟩, ⟨false, none, [], [], none⟩, ⟨false, none, [], [], none⟩, ⟨false, none, [], [], none⟩, ⟨false, none, [], [], none⟩, ⟨false, none, [], [], none⟩, ⟨false, none, [], [], none⟩, ⟨false, none, [], [], none⟩, ⟨false, some [0, 1, 2, 3, 4], [], [], none⟩] = some (c_laws_FnExactCertificateText, r_laws_FnExactCertificateText) := by kernel_rfl
end Go.Proofs.YtlglgcmpeabdnaaGreatDoorAi
end

section
/- Law: CertificateText. -/
namespace Go.Proofs.YtlglgcmpeabdnaaGreatDoorAi
open Go Go.RowKit
set_option linter.unusedVariables false
set_option linter.unusedSimpArgs false
set_option maxRecDepth 20000

/-! ### sizes -/
theorem szM_up : ∀ (M : List (List Fr)) (n : Int), 0 ≤ n → szM M n ≤ n
  | [], n, _ => Int.le_refl n
  | r :: M, n, h => by
    rw [szM]
    split
    · rename_i c
      have := szM_up M (n - r.length) (by omega)
      omega
    · omega
theorem szM_two : ∀ (M : List (List Fr)) (n : Int), 0 ≤ n → 0 ≤ szM M n ∨ szM M n = -1
  | [], n, h => .inl h
  | r :: M, n, h => by
    rw [szM]
    split
    · rename_i c
      exact szM_two M (n - r.length) (by omega)
    · exact .inr rfl
def szB1 (F : List Fl) (M : List (List Fr)) (n : Int) : Int := if (F.length : Int) ≤ n then (if (M.length : Int) ≤ n - F.length then szM M (n - F.length - M.length) else -1) else -1
theorem szB1_up (F : List Fl) (M : List (List Fr)) (n : Int) (h : 0 ≤ n) : szB1 F M n ≤ n := by
  unfold szB1
  split
  · split
    · have := szM_up M (n - F.length - M.length) (by omega)
      omega
    · omega
  · omega
theorem szB1_in {F : List Fl} {M : List (List Fr)} {n : Int} (h : 0 ≤ szB1 F M n) : (F.length : Int) ≤ n ∧ (M.length : Int) ≤ n ∧ ∀ r ∈ M, (r.length : Int) ≤ n := by
  unfold szB1 at h
  split at h
  · split at h
    · refine ⟨by omega, by omega, fun r hr => ?_⟩
      have := szM_le M _ h r hr
      omega
    · omega
  · omega
def szBs : List Bk → Int → Int
  | [], n => n
  | b :: L, n => if 0 ≤ szB1 b.F b.M n then szBs L (szB1 b.F b.M n) else -1
theorem szBs_in : ∀ (L : List Bk) (n : Int), 0 ≤ n → 0 ≤ szBs L n → ∀ b ∈ L, (b.F.length : Int) ≤ n ∧ (b.M.length : Int) ≤ n ∧ ∀ r ∈ b.M, (r.length : Int) ≤ n
  | [], _, _, _ => fun b hb => by cases hb
  | x :: L, n, hn, h => by
    intro b hb
    rw [szBs] at h
    split at h
    · rename_i h0
      have hu := szB1_up x.F x.M n hn
      rcases List.mem_cons.1 hb with rfl | hb
      · exact szB1_in h0
      · have := szBs_in L _ h0 h b hb
        exact ⟨by omega, by omega, fun r hr => by have := this.2.2 r hr; omega⟩
    · omega
noncomputable def sp_szFlagS : List AV → Option (AV) := pf (ι := (List Fl) × (Int)) (α := AV) (fun ⟨F, n⟩ => 0 ≤ n ∧ n ≤ 1048576 ∧ F.length ≤ maxLen) (fun ⟨F, n⟩ => [.sl (flsA F) false, .int .i64 n]) (fun ⟨F, n⟩ => .int .i64 (if (F.length : Int) ≤ n then n - F.length else -1))
theorem sp_szFlagS_eq (F : List Fl) (n : Int) (h : 0 ≤ n ∧ n ≤ 1048576 ∧ F.length ≤ maxLen) : sp_szFlagS [.sl (flsA F) false, .int .i64 n] = some (.int .i64 (if (F.length : Int) ≤ n then n - F.length else -1)) := by
  unfold sp_szFlagS
  exact pf_eq (ι := (List Fl) × (Int)) (α := AV) (F, n) h (by rintro ⟨F', n'⟩ _ e; simp_all [Int.natCast_inj])
theorem q_laws_szFlagS : QP PP 140 sp_szFlagS := by
  refine QP_pf (fun i h => ?_) fun i h => ?_
  · obtain ⟨F, n⟩ := i; exact ⟨by first | rfl | simp, by first | rfl | simp⟩
  obtain ⟨F, n⟩ := i
  replace h : 0 ≤ n ∧ n ≤ 1048576 ∧ F.length ≤ maxLen := h
  refine P_code Quiet.nil hmix k_laws_szFlagS rfl ?_ ?_
  · first | rfl | simp
  show wpc 0 PP _ c_laws_szFlagS (initSt [.sl (flsA F) false, .int .i64 n] .nil) (endP r_laws_szFlagS (.int .i64 (if (F.length : Int) ≤ n then n - F.length else -1)))
  obtain ⟨h0, h1, hl⟩ := h
  have hw : IntKind.i64.wrap (n - F.length) = n - F.length := wrapI64 (by simp only [maxLen] at hl; omega) (by omega)
  by_cases c : (F.length : Int) ≤ n
  · have c2 : ¬ (n - (F.length : Int) < 0) := by omega
    simp -dsimp -implicitDefEqProofs [c_laws_szFlagS, r_laws_szFlagS, hw, c, c2]
  · have c2 : n - (F.length : Int) < 0 := by omega
    simp -dsimp -implicitDefEqProofs [c_laws_szFlagS, r_laws_szFlagS, hw, c, c2]
noncomputable def sp_szBlock : List AV → Option (AV) := pf (ι := (List Fl) × (List (List Fr)) × (Int)) (α := AV) (fun ⟨F, M, n⟩ => (0 ≤ n ∧ n ≤ 1048576) ∧ bkIn ⟨F, M⟩) (fun ⟨F, M, n⟩ => [.agg [.sl (flsA F) false, .sl (rowsA M) false], .int .i64 n]) (fun ⟨F, M, n⟩ => .int .i64 (szB1 F M n))
theorem sp_szBlock_eq (F : List Fl) (M : List (List Fr)) (n : Int) (h : (0 ≤ n ∧ n ≤ 1048576) ∧ bkIn ⟨F, M⟩) : sp_szBlock [.agg [.sl (flsA F) false, .sl (rowsA M) false], .int .i64 n] = some (.int .i64 (szB1 F M n)) := by
  unfold sp_szBlock
  exact pf_eq (ι := (List Fl) × (List (List Fr)) × (Int)) (α := AV) (F, M, n) h (by rintro ⟨F', M', n'⟩ _ e; simp_all [Int.natCast_inj])
theorem q_laws_szBlock : QP PP 96 sp_szBlock := by
  refine QP_pf (fun i h => ?_) fun i h => ?_
  · obtain ⟨F, M, n⟩ := i; exact ⟨by first | rfl | simp, by first | rfl | simp⟩
  obtain ⟨F, M, n⟩ := i
  replace h : (0 ≤ n ∧ n ≤ 1048576) ∧ bkIn ⟨F, M⟩ := h
  refine P_code (Quiet.q1 q_laws_szFlagS (Quiet.q1 q_laws_szFractionSS Quiet.nil)) hmix k_laws_szBlock rfl ?_ ?_
  · first | rfl | simp
  show wpc 0 PP _ c_laws_szBlock (initSt [.agg [.sl (flsA F) false, .sl (rowsA M) false], .int .i64 n] .nil) (endP r_laws_szBlock (.int .i64 (szB1 F M n)))
  obtain ⟨⟨h0, h1⟩, ⟨hl, _⟩, hml, hmr⟩ := h
  have hf := sp_szFlagS_eq F n ⟨h0, h1, hl⟩
  unfold szB1
  by_cases c : (F.length : Int) ≤ n
  · rw [if_pos c] at hf
    have c2 : ¬ (n - (F.length : Int) < 0) := by omega
    have hm := sp_szFractionSS_eq M (n - F.length) ⟨by omega, by omega, hml, hmr⟩
    rw [if_pos c]
    generalize hv : (if (M.length : Int) ≤ n - F.length then szM M (n - F.length - M.length) else -1) = v at *
    have hv1 : 0 ≤ v ∨ v = -1 := by
      rw [← hv]
      split
      · exact szM_two M _ (by omega)
      · exact .inr rfl
    by_cases d : v < 0
    · obtain rfl : v = -1 := by omega
      simp -dsimp -implicitDefEqProofs [c_laws_szBlock, r_laws_szBlock, hf, c, c2, hm]
    · simp -dsimp -implicitDefEqProofs [c_laws_szBlock, r_laws_szBlock, hf, c, c2, hm, d]
  · rw [if_neg c] at hf
    simp -dsimp -implicitDefEqProofs [c_laws_szBlock, r_laws_szBlock, hf, c]
theorem szBs_two : ∀ (L : List Bk) (n : Int), 0 ≤ n → 0 ≤ szBs L n ∨ szBs L n = -1
  | [], n, h => .inl h
  | b :: L, n, h => by
    rw [szBs]
    split
    · rename_i c
      exact szBs_two L _ c
    · exact .inr rfl
theorem dropK {L : List Bk} {i : Nat} (h : i < L.length) : L.drop i = L[i] :: L.drop (i + 1) := (List.drop_eq_getElem_cons h)
noncomputable def sp_szBlockS : List AV → Option (AV) := pf (ι := (List Bk) × (Int)) (α := AV) (fun ⟨L, n⟩ => (0 ≤ n ∧ n ≤ 1048576) ∧ bksIn L) (fun ⟨L, n⟩ => [.sl (bksA L) false, .int .i64 n]) (fun ⟨L, n⟩ => .int .i64 (if (L.length : Int) ≤ n then szBs L (n - L.length) else -1))
theorem sp_szBlockS_eq (L : List Bk) (n : Int) (h : (0 ≤ n ∧ n ≤ 1048576) ∧ bksIn L) : sp_szBlockS [.sl (bksA L) false, .int .i64 n] = some (.int .i64 (if (L.length : Int) ≤ n then szBs L (n - L.length) else -1)) := by
  unfold sp_szBlockS
  exact pf_eq (ι := (List Bk) × (Int)) (α := AV) (L, n) h (by rintro ⟨L', n'⟩ _ e; simp_all [Int.natCast_inj])
theorem q_laws_szBlockS : QP PP 44 sp_szBlockS := by
  refine QP_pf (fun i h => ?_) fun i h => ?_
  · obtain ⟨L, n⟩ := i; exact ⟨by first | rfl | simp, by first | rfl | simp⟩
  obtain ⟨L, n⟩ := i
  replace h : (0 ≤ n ∧ n ≤ 1048576) ∧ bksIn L := h
  refine P_code (Quiet.q1 q_laws_szBlock Quiet.nil) hmix k_laws_szBlockS rfl ?_ ?_
  · first | rfl | simp
  show wpc 0 PP _ c_laws_szBlockS (initSt [.sl (bksA L) false, .int .i64 n] .nil) (endP r_laws_szBlockS (.int .i64 (if (L.length : Int) ≤ n then szBs L (n - L.length) else -1)))
  obtain ⟨⟨h0, h1⟩, hl, hin⟩ := h
  have hw : IntKind.i64.wrap (n - L.length) = n - L.length := wrapI64 (by simp only [maxLen] at hl; omega) (by omega)
  by_cases hlt : (L.length : Int) ≤ n
  · have h2 : ¬ (n - (L.length : Int) < 0) := by omega
    rw [if_pos hlt]
    simp -dsimp -implicitDefEqProofs [c_laws_szBlockS, r_laws_szBlockS, hw, h2]
    refine wpLoop_st (fun (q : Nat × Int) => ⟨tl [(0, .sl (bksA L) false), (1, .int .i64 q.2), (5, .int .i64 q.1)], ⟨[]⟩⟩) (fun q => q.1 ≤ L.length ∧ (0 ≤ q.2 ∧ q.2 ≤ 1048576) ∧ szBs (L.drop q.1) q.2 = szBs L (n - L.length)) (fun q => L.length - q.1) (0, n - L.length) ⟨by simp, by simp only; omega, rfl⟩ (Sub.keep (by simp) (by simp [hsub]) (by simp)) ?_
    rintro ⟨i, m⟩ ⟨hi, hm, hs⟩
    simp only at hi hm hs
    simp -dsimp -implicitDefEqProofs
    refine brW_of (fun h => ?_) (fun h => ?_) <;> simp only [decide_eq_true_eq, decide_eq_false_iff_not] at h
    · have hx : i < L.length := by omega
      have hwi := wrapNat (i := i) (by omega)
      have hz := sp_szBlock_eq L[i].F L[i].M m ⟨hm, hin _ (List.getElem_mem hx)⟩
      have hup := szB1_up L[i].F L[i].M m hm.1
      rw [dropK hx, szBs] at hs
      generalize hb : L[i] = b at *
      by_cases hc : 0 ≤ szB1 b.F b.M m
      · rw [if_pos hc] at hs
        have h3 : ¬ (szB1 b.F b.M m < 0) := by omega
        simp -dsimp -implicitDefEqProofs [hx, hb, hwi, hz, h3]
        exact .mk (i + 1, szB1 b.F b.M m) ⟨by simp only; omega, by simp only; omega, hs⟩ (by simp only; omega) (Sub.keep (by simp) (by simp [hsub]) (by simp [hwi]))
      · rw [if_neg hc] at hs
        have h3 : szB1 b.F b.M m < 0 := by omega
        simp -dsimp -implicitDefEqProofs [hx, hb, hz, h3, ← hs]
    · have : i = L.length := by omega
      subst this
      rw [List.drop_length, szBs] at hs
      simp -dsimp -implicitDefEqProofs [hs]
  · have h2 : n - (L.length : Int) < 0 := by omega
    rw [if_neg hlt]
    simp -dsimp -implicitDefEqProofs [c_laws_szBlockS, r_laws_szBlockS, hw, h2]
def szC (L : List Bk) (n : Int) : Int := if (L.length : Int) ≤ n then szBs L (n - L.length) else -1
theorem szC_two (L : List Bk) (n : Int) : 0 ≤ szC L n ∨ szC L n = -1 := by
  unfold szC
  split
  · exact szBs_two L _ (by omega)
  · exact .inr rfl
noncomputable def sp_szCertificate : List AV → Option (AV) := pf (ι := (Int) × (List Bk) × (Int)) (α := AV) (fun ⟨s, L, n⟩ => (0 ≤ n ∧ n ≤ 1048576) ∧ bksIn L) (fun ⟨s, L, n⟩ => [.agg [.int .i64 s, .sl (bksA L) false], .int .i64 n]) (fun ⟨s, L, n⟩ => .int .i64 (szC L n))
theorem sp_szCertificate_eq (s : Int) (L : List Bk) (n : Int) (h : (0 ≤ n ∧ n ≤ 1048576) ∧ bksIn L) : sp_szCertificate [.agg [.int .i64 s, .sl (bksA L) false], .int .i64 n] = some (.int .i64 (szC L n)) := by
  unfold sp_szCertificate
  exact pf_eq (ι := (Int) × (List Bk) × (Int)) (α := AV) (s, L, n) h (by rintro ⟨s', L', n'⟩ _ e; simp_all [Int.natCast_inj])
theorem q_laws_szCertificate : QP PP 12 sp_szCertificate := by
  refine QP_pf (fun i h => ?_) fun i h => ?_
  · obtain ⟨s, L, n⟩ := i; exact ⟨by first | rfl | simp, by first | rfl | simp⟩
  obtain ⟨s, L, n⟩ := i
  replace h : (0 ≤ n ∧ n ≤ 1048576) ∧ bksIn L := h
  refine P_code (Quiet.q1 q_laws_szBlockS Quiet.nil) hmix k_laws_szCertificate rfl ?_ ?_
  · first | rfl | simp
  show wpc 0 PP _ c_laws_szCertificate (initSt [.agg [.int .i64 s, .sl (bksA L) false], .int .i64 n] .nil) (endP r_laws_szCertificate (.int .i64 (szC L n)))
  have hz := sp_szBlockS_eq L n h
  have ht := szC_two L n
  have e1 : (if (L.length : Int) ≤ n then szBs L (n - L.length) else -1) = szC L n := rfl
  rw [e1] at hz
  generalize szC L n = v at *
  by_cases d : v < 0
  · obtain rfl : v = -1 := by omega
    simp -dsimp -implicitDefEqProofs [c_laws_szCertificate, r_laws_szCertificate, hz]
  · simp -dsimp -implicitDefEqProofs [c_laws_szCertificate, r_laws_szCertificate, hz, d]
/-! ### copies -/
theorem flsA_cells (l : List Fl) : ∀ x ∈ flsA l, x.cells.length = 3 ∧ ltL 0 x.cells = true := by
  intro x hx
  obtain ⟨p, _, rfl⟩ := List.mem_map.1 hx
  exact ⟨rfl, by simp⟩
theorem bksA_cells (l : List Bk) : ∀ x ∈ bksA l, x.cells.length = 2 ∧ ltL 0 x.cells = true := by
  intro x hx
  obtain ⟨p, _, rfl⟩ := List.mem_map.1 hx
  exact ⟨rfl, by simp⟩
noncomputable def sp_toFlagS : List AV → Option (AV) := pf (ι := (List Fl)) (α := AV) (fun l => l.length ≤ 1048576) (fun l => [.sl (flsA l) false]) (fun l => .sl (flsA l) false)
theorem sp_toFlagS_eq (l : List Fl) (h : l.length ≤ 1048576) : sp_toFlagS [.sl (flsA l) false] = some (.sl (flsA l) false) := by
  unfold sp_toFlagS
  exact pf_eq (ι := (List Fl)) (α := AV) l h (by rintro l' _ e; simp_all [Int.natCast_inj])
theorem q_laws_toFlagS : QP PP 143 sp_toFlagS := by
  refine QP_pf (fun l h => ?_) fun l h => ?_
  · exact ⟨by first | rfl | simp, by first | rfl | simp⟩
  replace h : l.length ≤ 1048576 := h
  refine P_code (Quiet.q1 q_laws_toFlag Quiet.nil) hmix k_laws_toFlagS rfl ?_ ?_
  · first | rfl | simp
  show wpc 0 PP _ c_laws_toFlagS (initSt [.sl (flsA l) false] .nil) (endP r_laws_toFlagS (.sl (flsA l) false))
  have hm : (l.length : Int) * 25 ≤ (mostBytes : Int) := by simp only [mostBytes]; omega
  simp -dsimp -implicitDefEqProofs [c_laws_toFlagS, r_laws_toFlagS, hm]
  refine wpLoop_st (fun (i : Nat × List AV) => ⟨tl [(0, .sl (flsA l) false), (3, .ref 0 3 0 l.length .tight), (4, .int .i64 i.1)], ⟨[some i.2]⟩⟩) (fun i => i.1 ≤ l.length ∧ Filled 3 i.2 (flsA l) i.1 ∧ ltL 0 i.2 = true) (fun i => l.length - i.1) (0, newCells 3 l.length [.int .i64 0, .int .i64 0, .int .u32 0])
    ⟨Nat.zero_le _, Filled.zero (by simp [newCells, flat_len]), newCells_lt 3 l.length (by simp)⟩ (Sub.keep (by simp) (by
      have := newCells_lt (n := 1) 3 l.length (z := [.int .i64 0, .int .i64 0, .int .u32 0]) (by simp)
      simp [hsub, renL_id] at this ⊢
      try exact this) (by simp)) ?_
  rintro ⟨i, cs⟩ ⟨h1, h2, h3⟩
  simp -dsimp -implicitDefEqProofs
  refine brW_of (fun h => ?_) (fun h => ?_) <;> simp only [decide_eq_true_eq, decide_eq_false_iff_not] at h
  · have hi : i < l.length := by omega
    have hw := wrapNat (i := i) (by omega)
    have hl : cs.length = l.length * 3 := by have := h2.len; rw [mapA_length] at this; exact this
    have hfit : i * 3 + 3 ≤ cs.length := by omega
    simp -dsimp -implicitDefEqProofs [hi, hfit, hw]
    refine .mk (i + 1, setCells cs (i * 3) (flA l[i]).cells) ⟨by simp only; omega, h2.step (by simp [hi]) rfl, setCells_lt _ _ _ h3 (by simp)⟩ (by simp only; omega) (Sub.keep (by simp) ?_ (by simp))
    have := setCells_lt (n := 1) _ (i * 3) (flA l[i]).cells (ltL_mono (Nat.zero_le 1) _ h3) (by simp)
    simp [hsub, renL_id, setCells] at this ⊢
    exact this
  · have hi : i = l.length := by omega
    subst hi
    simp -dsimp -implicitDefEqProofs
    have h2' : Filled 3 cs (flsA l) (flsA l).length := by rw [mapA_length]; exact h2
    have hl : cs.length = l.length * 3 := by have := h2.len; rw [mapA_length] at this; exact this
    refine ⟨_, Shift.tmp (k := 2) (b := 0) (e := 3) (o := 0) (n := l.length) (xs := flsA l) (t' := false) (t := .tight) (cs := cs) (by simp -dsimp) (by simp -dsimp) (by simp) (by omega) (by simp) (flsA_cells l) (.inl (by rw [h2'.all (fun x hx => (flsA_cells l x hx).1) (by omega)]; simp [← hl])), ?_⟩
    simp -dsimp -implicitDefEqProofs
abbrev bkSm (F : List Fl) (M : List (List Fr)) : Prop := F.length ≤ 1048576 ∧ M.length ≤ 1048576 ∧ ∀ r ∈ M, r.length ≤ 1048576
noncomputable def sp_toBlock : List AV → Option (AV) := pf (ι := (List Fl) × (List (List Fr))) (α := AV) (fun ⟨F, M⟩ => bkSm F M) (fun ⟨F, M⟩ => [.agg [.sl (flsA F) false, .sl (rowsA M) false]]) (fun ⟨F, M⟩ => .agg [.sl (flsA F) false, .sl (rowsA M) false])
theorem sp_toBlock_eq (F : List Fl) (M : List (List Fr)) (h : bkSm F M) : sp_toBlock [.agg [.sl (flsA F) false, .sl (rowsA M) false]] = some (.agg [.sl (flsA F) false, .sl (rowsA M) false]) := by
  unfold sp_toBlock
  exact pf_eq (ι := (List Fl) × (List (List Fr))) (α := AV) (F, M) h (by rintro ⟨F', M'⟩ _ e; simp_all [Int.natCast_inj])
theorem q_laws_toBlock : QP PP 101 sp_toBlock := by
  refine QP_pf (fun i h => ?_) fun i h => ?_
  · obtain ⟨F, M⟩ := i; exact ⟨by first | rfl | simp, by first | rfl | simp⟩
  obtain ⟨F, M⟩ := i
  replace h : bkSm F M := h
  refine P_code (Quiet.q1 q_laws_toFlagS (Quiet.q1 q_laws_toFractionSS Quiet.nil)) hmix k_laws_toBlock rfl ?_ ?_
  · first | rfl | simp
  show wpc 0 PP _ c_laws_toBlock (initSt [.agg [.sl (flsA F) false, .sl (rowsA M) false]] .nil) (endP r_laws_toBlock (.agg [.sl (flsA F) false, .sl (rowsA M) false]))
  have h1 := sp_toFlagS_eq F h.1
  have h2 := sp_toFractionSS_eq M h.2
  simp -dsimp -implicitDefEqProofs [c_laws_toBlock, r_laws_toBlock, h1, h2]
noncomputable def sp_toBlockS : List AV → Option (AV) := pf (ι := (List Bk)) (α := AV) (fun l => l.length ≤ 1048576 ∧ ∀ b ∈ l, bkSm b.F b.M) (fun l => [.sl (bksA l) false]) (fun l => .sl (bksA l) false)
theorem sp_toBlockS_eq (l : List Bk) (h : l.length ≤ 1048576 ∧ ∀ b ∈ l, bkSm b.F b.M) : sp_toBlockS [.sl (bksA l) false] = some (.sl (bksA l) false) := by
  unfold sp_toBlockS
  exact pf_eq (ι := (List Bk)) (α := AV) l h (by rintro l' _ e; simp_all [Int.natCast_inj])
theorem q_laws_toBlockS : QP PP 47 sp_toBlockS := by
  refine QP_pf (fun l h => ?_) fun l h => ?_
  · exact ⟨by first | rfl | simp, by first | rfl | simp⟩
  replace h : l.length ≤ 1048576 ∧ ∀ b ∈ l, bkSm b.F b.M := h
  refine P_code (Quiet.q1 q_laws_toBlock Quiet.nil) hmix k_laws_toBlockS rfl ?_ ?_
  · first | rfl | simp
  show wpc 0 PP _ c_laws_toBlockS (initSt [.sl (bksA l) false] .nil) (endP r_laws_toBlockS (.sl (bksA l) false))
  obtain ⟨h, hsm⟩ := h
  have hm : (l.length : Int) * 49 ≤ (mostBytes : Int) := by simp only [mostBytes]; omega
  simp -dsimp -implicitDefEqProofs [c_laws_toBlockS, r_laws_toBlockS, hm]
  refine wpLoop_st (fun (i : Nat × List AV) => ⟨tl [(0, .sl (bksA l) false), (3, .ref 0 2 0 l.length .tight), (4, .int .i64 i.1)], ⟨[some i.2]⟩⟩) (fun i => i.1 ≤ l.length ∧ Filled 2 i.2 (bksA l) i.1 ∧ ltL 0 i.2 = true) (fun i => l.length - i.1) (0, newCells 2 l.length [.sl [] true, .sl [] true])
    ⟨Nat.zero_le _, Filled.zero (by simp [newCells, flat_len]), newCells_lt 2 l.length (by simp)⟩ (Sub.keep (by simp) (by
      have := newCells_lt (n := 1) 2 l.length (z := [.sl [] true, .sl [] true]) (by simp)
      simp [hsub, renL_id] at this ⊢
      exact this) (by simp)) ?_
  rintro ⟨i, cs⟩ ⟨h1, h2, h3⟩
  simp -dsimp -implicitDefEqProofs
  refine brW_of (fun h => ?_) (fun h => ?_) <;> simp only [decide_eq_true_eq, decide_eq_false_iff_not] at h
  · have hi : i < l.length := by omega
    have hw := wrapNat (i := i) (by omega)
    have hl : cs.length = l.length * 2 := by have := h2.len; rw [mapA_length] at this; exact this
    have hfit : i * 2 + 2 ≤ cs.length := by omega
    have hto := sp_toBlock_eq l[i].F l[i].M (hsm _ (List.getElem_mem hi))
    simp -dsimp -implicitDefEqProofs [hi, hfit, hw, hto]
    refine .mk (i + 1, setCells cs (i * 2) (bkA l[i]).cells) ⟨by simp only; omega, h2.step (by simp [hi]) rfl, setCells_lt _ _ _ h3 (by simp)⟩ (by simp only; omega) (Sub.keep (by simp) ?_ (by simp))
    have := setCells_lt (n := 1) _ (i * 2) (bkA l[i]).cells (ltL_mono (Nat.zero_le 1) _ h3) (by simp)
    simp [hsub, renL_id, setCells] at this ⊢
    exact this
  · have hi : i = l.length := by omega
    subst hi
    simp -dsimp -implicitDefEqProofs
    have h2' : Filled 2 cs (bksA l) (bksA l).length := by rw [mapA_length]; exact h2
    have hl : cs.length = l.length * 2 := by have := h2.len; rw [mapA_length] at this; exact this
    refine ⟨_, Shift.tmp (k := 2) (b := 0) (e := 2) (o := 0) (n := l.length) (xs := bksA l) (t' := false) (t := .tight) (cs := cs) (by simp -dsimp) (by simp -dsimp) (by simp) (by omega) (by simp) (bksA_cells l) (.inl (by rw [h2'.all (fun x hx => (bksA_cells l x hx).1) (by omega)]; simp [← hl])), ?_⟩
    simp -dsimp -implicitDefEqProofs
noncomputable def sp_toCertificate : List AV → Option (AV) := pf (ι := (Int) × (List Bk)) (α := AV) (fun ⟨s, L⟩ => L.length ≤ 1048576 ∧ ∀ b ∈ L, bkSm b.F b.M) (fun ⟨s, L⟩ => [.agg [.int .i64 s, .sl (bksA L) false]]) (fun ⟨s, L⟩ => .agg [.int .i64 s, .sl (bksA L) false])
theorem sp_toCertificate_eq (s : Int) (L : List Bk) (h : L.length ≤ 1048576 ∧ ∀ b ∈ L, bkSm b.F b.M) : sp_toCertificate [.agg [.int .i64 s, .sl (bksA L) false]] = some (.agg [.int .i64 s, .sl (bksA L) false]) := by
  unfold sp_toCertificate
  exact pf_eq (ι := (Int) × (List Bk)) (α := AV) (s, L) h (by rintro ⟨s', L'⟩ _ e; simp_all [Int.natCast_inj])
theorem q_laws_toCertificate : QP PP 14 sp_toCertificate := by
  refine QP_pf (fun i h => ?_) fun i h => ?_
  · obtain ⟨s, L⟩ := i; exact ⟨by first | rfl | simp, by first | rfl | simp⟩
  obtain ⟨s, L⟩ := i
  replace h : L.length ≤ 1048576 ∧ ∀ b ∈ L, bkSm b.F b.M := h
  refine P_code (Quiet.q1 q_laws_toBlockS Quiet.nil) hmix k_laws_toCertificate rfl ?_ ?_
  · first | rfl | simp
  show wpc 0 PP _ c_laws_toCertificate (initSt [.agg [.int .i64 s, .sl (bksA L) false]] .nil) (endP r_laws_toCertificate (.agg [.int .i64 s, .sl (bksA L) false]))
  have h1 := sp_toBlockS_eq L h
  simp -dsimp -implicitDefEqProofs [c_laws_toCertificate, r_laws_toCertificate, h1]
/-! ### the same -/
noncomputable def sp_eqFlagS : List AV → Option (AV) := pf (ι := (List Fl)) (α := AV) (fun F => F.length ≤ maxLen) (fun F => [.sl (flsA F) false, .sl (flsA F) false]) (fun F => .bool true)
theorem sp_eqFlagS_eq (F : List Fl) (h : F.length ≤ maxLen) : sp_eqFlagS [.sl (flsA F) false, .sl (flsA F) false] = some (.bool true) := by
  unfold sp_eqFlagS
  exact pf_eq (ι := (List Fl)) (α := AV) F h (by rintro F' _ e; simp_all [Int.natCast_inj])
theorem q_laws_eqFlagS : QP PP 149 sp_eqFlagS := by
  refine QP_pf (fun F h => ?_) fun F h => ?_
  · exact ⟨by first | rfl | simp, by first | rfl | simp⟩
  replace h : F.length ≤ maxLen := h
  refine P_code (Quiet.q1 q_laws_eqFlag Quiet.nil) hmix k_laws_eqFlagS rfl ?_ ?_
  · first | rfl | simp
  show wpc 0 PP _ c_laws_eqFlagS (initSt [.sl (flsA F) false, .sl (flsA F) false] .nil) (endP r_laws_eqFlagS (.bool true))
  simp only [maxLen] at h
  simp -dsimp -implicitDefEqProofs [c_laws_eqFlagS, r_laws_eqFlagS]
  refine wpLoop_st (fun (i : Nat) => ⟨tl [(0, .sl (flsA F) false), (1, .sl (flsA F) false), (5, .int .i64 i)], ⟨[]⟩⟩) (fun i => i ≤ F.length) (fun i => F.length - i) 0 (Nat.zero_le _) (Sub.keep (by simp) (by simp [hsub]) (by simp)) ?_
  intro i h1
  simp -dsimp -implicitDefEqProofs
  refine brW_of (fun h => ?_) (fun h => ?_) <;> simp only [decide_eq_true_eq, decide_eq_false_iff_not] at h
  · have hi : i < F.length := by omega
    have hw := wrapNat (i := i) (by omega)
    simp -dsimp -implicitDefEqProofs [hi, hw]
    exact .mk (i + 1) (by omega) (by omega) (Sub.keep (by simp) (by simp [hsub]) (by simp [hw]))
  · simp -dsimp -implicitDefEqProofs
noncomputable def sp_eqBlock : List AV → Option (AV) := pf (ι := (List Fl) × (List (List Fr))) (α := AV) (fun ⟨F, M⟩ => bkIn ⟨F, M⟩) (fun ⟨F, M⟩ => [.agg [.sl (flsA F) false, .sl (rowsA M) false], .agg [.sl (flsA F) false, .sl (rowsA M) false]]) (fun ⟨F, M⟩ => .bool true)
theorem sp_eqBlock_eq (F : List Fl) (M : List (List Fr)) (h : bkIn ⟨F, M⟩) : sp_eqBlock [.agg [.sl (flsA F) false, .sl (rowsA M) false], .agg [.sl (flsA F) false, .sl (rowsA M) false]] = some (.bool true) := by
  unfold sp_eqBlock
  exact pf_eq (ι := (List Fl) × (List (List Fr))) (α := AV) (F, M) h (by rintro ⟨F', M'⟩ _ e; simp_all [Int.natCast_inj])
theorem q_laws_eqBlock : QP PP 106 sp_eqBlock := by
  refine QP_pf (fun i h => ?_) fun i h => ?_
  · obtain ⟨F, M⟩ := i; exact ⟨by first | rfl | simp, by first | rfl | simp⟩
  obtain ⟨F, M⟩ := i
  replace h : bkIn ⟨F, M⟩ := h
  refine P_code (Quiet.q1 q_laws_eqFlagS (Quiet.e1 q_laws_eqFractionSS.toR Quiet.nil)) hmix k_laws_eqBlock rfl ?_ ?_
  · first | rfl | simp
  show wpc 0 PP _ c_laws_eqBlock (initSt [.agg [.sl (flsA F) false, .sl (rowsA M) false], .agg [.sl (flsA F) false, .sl (rowsA M) false]] .nil) (endP r_laws_eqBlock (.bool true))
  have h1 := sp_eqFlagS_eq F h.1.1
  have h2 := sp_eqFractionSS_eq M M h.2
  rw [decide_eq_true rfl] at h2
  simp -dsimp -implicitDefEqProofs [c_laws_eqBlock, r_laws_eqBlock, h1, h2]
noncomputable def sp_eqBlockS : List AV → Option (AV) := pf (ι := (List Bk)) (α := AV) (fun L => bksIn L) (fun L => [.sl (bksA L) false, .sl (bksA L) false]) (fun L => .bool true)
theorem sp_eqBlockS_eq (L : List Bk) (h : bksIn L) : sp_eqBlockS [.sl (bksA L) false, .sl (bksA L) false] = some (.bool true) := by
  unfold sp_eqBlockS
  exact pf_eq (ι := (List Bk)) (α := AV) L h (by rintro L' _ e; simp_all [Int.natCast_inj])
theorem q_laws_eqBlockS : QP PP 54 sp_eqBlockS := by
  refine QP_pf (fun L h => ?_) fun L h => ?_
  · exact ⟨by first | rfl | simp, by first | rfl | simp⟩
  replace h : bksIn L := h
  refine P_code (Quiet.q1 q_laws_eqBlock Quiet.nil) hmix k_laws_eqBlockS rfl ?_ ?_
  · first | rfl | simp
  show wpc 0 PP _ c_laws_eqBlockS (initSt [.sl (bksA L) false, .sl (bksA L) false] .nil) (endP r_laws_eqBlockS (.bool true))
  obtain ⟨h, hin⟩ := h
  simp only [maxLen] at h
  simp -dsimp -implicitDefEqProofs [c_laws_eqBlockS, r_laws_eqBlockS]
  refine wpLoop_st (fun (i : Nat) => ⟨tl [(0, .sl (bksA L) false), (1, .sl (bksA L) false), (5, .int .i64 i)], ⟨[]⟩⟩) (fun i => i ≤ L.length) (fun i => L.length - i) 0 (Nat.zero_le _) (Sub.keep (by simp) (by simp [hsub]) (by simp)) ?_
  intro i h1
  simp -dsimp -implicitDefEqProofs
  refine brW_of (fun h => ?_) (fun h => ?_) <;> simp only [decide_eq_true_eq, decide_eq_false_iff_not] at h
  · have hi : i < L.length := by omega
    have hw := wrapNat (i := i) (by omega)
    have hq := sp_eqBlock_eq L[i].F L[i].M (hin _ (List.getElem_mem hi))
    simp -dsimp -implicitDefEqProofs [hi, hw, hq]
    exact .mk (i + 1) (by omega) (by omega) (Sub.keep (by simp) (by simp [hsub]) (by simp [hw]))
  · simp -dsimp -implicitDefEqProofs
noncomputable def sp_eqCertificate : List AV → Option (AV) := pf (ι := (Int) × (List Bk)) (α := AV) (fun ⟨s, L⟩ => bksIn L) (fun ⟨s, L⟩ => [.agg [.int .i64 s, .sl (bksA L) false], .agg [.int .i64 s, .sl (bksA L) false]]) (fun ⟨s, L⟩ => .bool true)
theorem sp_eqCertificate_eq (s : Int) (L : List Bk) (h : bksIn L) : sp_eqCertificate [.agg [.int .i64 s, .sl (bksA L) false], .agg [.int .i64 s, .sl (bksA L) false]] = some (.bool true) := by
  unfold sp_eqCertificate
  exact pf_eq (ι := (Int) × (List Bk)) (α := AV) (s, L) h (by rintro ⟨s', L'⟩ _ e; simp_all [Int.natCast_inj])
theorem q_laws_eqCertificate : QP PP 16 sp_eqCertificate := by
  refine QP_pf (fun i h => ?_) fun i h => ?_
  · obtain ⟨s, L⟩ := i; exact ⟨by first | rfl | simp, by first | rfl | simp⟩
  obtain ⟨s, L⟩ := i
  replace h : bksIn L := h
  refine P_code (Quiet.q1 q_laws_eqBlockS Quiet.nil) hmix k_laws_eqCertificate rfl ?_ ?_
  · first | rfl | simp
  show wpc 0 PP _ c_laws_eqCertificate (initSt [.agg [.int .i64 s, .sl (bksA L) false], .agg [.int .i64 s, .sl (bksA L) false]] .nil) (endP r_laws_eqCertificate (.bool true))
  have h1 := sp_eqBlockS_eq L h
  simp -dsimp -implicitDefEqProofs [c_laws_eqCertificate, r_laws_eqCertificate, h1]
abbrev tyFl1 : Ty := .st [.int .i64, .st [.int .i64, .int .u32]]
abbrev tyBk : Ty := .st [.sl tyFl1, tyMat]
abbrev tyCertificate : Ty := .st [.int .i64, .sl tyBk]
theorem wt_fl1 : ∀ y, WtV tyFl1 y → ∃ x, y = flA x ∧ flIn x := by
  intro y h
  simp only [tyFl1, WtV_st, WtL_st, WtL_int, WtL_nil] at h
  obtain ⟨_, rfl, k, _, rfl, _, _, _, rfl, ⟨n, _, rfl, _, e, _, rfl, he, rfl⟩, rfl⟩ := h
  exact ⟨⟨k, ⟨n, e⟩⟩, rfl, by simpa [IntKind.min, IntKind.signed] using he.1, by simpa [IntKind.max, IntKind.signed, IntKind.bits] using he.2⟩
theorem wt_bk : ∀ y, WtV tyBk y → ∃ b, y = bkA b ∧ bkIn b := by
  intro y h
  rw [tyBk, WtV_st] at h
  simp only [WtL_sl, WtL_nil] at h
  obtain ⟨_, rfl, xs, _, rfl, ⟨hl, hx⟩, ys, _, rfl, ⟨hm, hy⟩, rfl⟩ := h
  obtain ⟨F, rfl, hF⟩ := wt_listQ (t := tyFl1) wt_fl1 hx
  obtain ⟨M, rfl, hM⟩ := wt_listQ (t := tyRow) wt_row hy
  exact ⟨⟨F, M⟩, rfl, ⟨by simpa using hl, hF⟩, by simpa using hm, hM⟩
theorem wt_certificate {x : AV} (h : WtV tyCertificate x) : ∃ s L, x = .agg [.int .i64 s, .sl (bksA L) false] ∧ bksIn L := by
  rw [tyCertificate, WtV_st] at h
  simp only [WtL_int, WtL_sl, WtL_nil] at h
  obtain ⟨_, rfl, s, _, rfl, _, xs, _, rfl, ⟨hl, hx⟩, rfl⟩ := h
  obtain ⟨L, rfl, hL⟩ := wt_listQ (t := tyBk) wt_bk hx
  exact ⟨s, L, rfl, by simpa using hl, hL⟩
theorem szC_in {L : List Bk} {n : Int} (h : 0 ≤ szC L n) (hn : n ≤ 1048576) : L.length ≤ 1048576 ∧ ∀ b ∈ L, bkSm b.F b.M := by
  unfold szC at h
  split at h
  · rename_i c
    refine ⟨by omega, fun b hb => ?_⟩
    obtain ⟨h1, h2, h3⟩ := szBs_in L _ (by omega) h b hb
    exact ⟨by omega, by omega, fun r hr => by have := h3 r hr; omega⟩
  · omega
set_option maxHeartbeats 1000000 in
theorem law_certificateText (xs : List AV) (h : WtA [tyCertificate] xs) : T PP 4 xs .nil fun r _ => r = .bool true := by
  simp only [WtA_cons, WtA_nil] at h
  obtain ⟨x, _, rfl, hx, rfl⟩ := h
  obtain ⟨s, L, rfl, h⟩ := wt_certificate hx
  refine (P_code (r := .bool true) (Quiet.q1 q_laws_szCertificate (Quiet.q1 q_laws_toCertificate (Quiet.q1 q_spec_CertificateText (Quiet.q1 q_impl_CertificateText (Quiet.q1 q_laws_eqCertificate Quiet.nil))))) hmix k_laws_FnExactCertificateText rfl rfl ?_).mono fun r A' h => h.1
  have hz := sp_szCertificate_eq s L 1048576 ⟨by omega, h⟩
  by_cases c : szC L 1048576 < 0
  · simp -dsimp -implicitDefEqProofs [c_laws_FnExactCertificateText, r_laws_FnExactCertificateText, hz, c]
  · have hsm := szC_in (L := L) (n := 1048576) (by omega) (by omega)
    simp -dsimp -implicitDefEqProofs [c_laws_FnExactCertificateText, r_laws_FnExactCertificateText, hz, c, sp_toCertificate_eq s L hsm, sp_certText_eq s L h, sp_eqCertificate_eq s L h, bne_ba]
end Go.Proofs.YtlglgcmpeabdnaaGreatDoorAi
end
