/- Contracts, joined. -/
import Derived.Test.YtjfoenibffdoeaaDoorMmt2
section
/- Contracts: texts of lists of fractions and of matrices. -/
namespace Go.Proofs.YtjfoenibffdoeaaDoorAi
open Go Go.RowKit
set_option linter.unusedVariables false
set_option linter.unusedSimpArgs false
set_option maxRecDepth 20000

theorem ljoin_cons2 (x y : List UInt8) (r : List (List UInt8)) (sep : List UInt8) : Go.Lib.join (x :: y :: r) sep = x ++ (sep ++ Go.Lib.join (y :: r) sep) := by
  simp [Go.Lib.join, List.intercalate, List.intersperse]
theorem ljoin_snoc (sep x : List UInt8) : ∀ (l : List (List UInt8)), l ≠ [] → Go.Lib.join (l ++ [x]) sep = Go.Lib.join l sep ++ (sep ++ x)
  | [], h => absurd rfl h
  | [y], _ => by
    show Go.Lib.join [y, x] sep = _
    rw [ljoin_cons2, Go.Lib.join_one, Go.Lib.join_one]
  | y :: z :: r, _ => by
    show Go.Lib.join (y :: z :: (r ++ [x])) sep = _
    have ih := ljoin_snoc sep x (z :: r) (by simp)
    rw [ljoin_cons2, ljoin_cons2]
    rw [List.cons_append] at ih
    rw [ih]
    simp only [List.append_assoc]
theorem joinT_nil (sep : ByteArray) : joinT [] sep = ⟨#[]⟩ := rfl
theorem joinT_one (x sep : ByteArray) : joinT [x] sep = x := by
  unfold joinT; rw [List.map_cons, List.map_nil, Go.Lib.join_one]
theorem joinT_snoc (sep x : ByteArray) (l : List ByteArray) (h : l ≠ []) : joinT (l ++ [x]) sep = joinT l sep ++ (sep ++ x) := by
  unfold joinT
  rw [List.map_append, List.map_cons, List.map_nil, ljoin_snoc _ _ _ (by simpa using h)]
  apply ByteArray.ext
  simp
theorem joinT_size (sep : ByteArray) (m : Nat) : ∀ (l : List ByteArray), (∀ x ∈ l, x.size ≤ m) → (joinT l sep).size ≤ l.length * (m + sep.size)
  | [], _ => by simp [joinT_nil]
  | [y], h => by
    have := h y (List.mem_cons_self ..)
    rw [joinT_one, List.length_singleton]; omega
  | y :: z :: r, h => by
    have h1 := joinT_size sep m (z :: r) fun x hx => h x (List.mem_cons_of_mem _ hx)
    have h2 := h y (List.mem_cons_self ..)
    have e : (joinT (y :: z :: r) sep).size = y.size + (sep.size + (joinT (z :: r) sep).size) := by
      unfold joinT
      rw [List.map_cons, List.map_cons, ljoin_cons2]
      simp only [ba_size, List.size_toArray, List.length_append, Array.length_toList]
      rfl
    rw [e, List.length_cons, Nat.add_mul]
    rw [List.length_cons] at h1 ⊢
    omega
def oneB : ByteArray := ⟨#[32]⟩
def frS (x : Fr) : ByteArray := frT x.p x.q
def fracsT (l : List Fr) : ByteArray := joinT (l.map frS) oneB
theorem frS_size {x : Fr} (h : frOk x.p x.q = true) : (frS x).size ≤ 43 := by
  have hb := frOk_bd h
  have s1 := decB_size x.p (by omega) (by omega)
  have s2 := decB_size x.q (by omega) (by omega)
  unfold frS frT
  split
  · omega
  · have : slashB.size = 1 := rfl
    simp only [ByteArray.size_append]; omega
theorem allOk_get {l : List Fr} (h : allOk l = true) : ∀ x ∈ l, frOk x.p x.q = true := by
  unfold allOk at h
  exact fun x hx => List.all_eq_true.1 h x hx
theorem fracsT_size {l : List Fr} (h : allOk l = true) : (fracsT l).size ≤ l.length * 44 := by
  have := joinT_size oneB 43 (l.map frS) (by
    intro x hx
    obtain ⟨y, hy, rfl⟩ := List.mem_map.1 hx
    exact frS_size (allOk_get h y hy))
  have e : oneB.size = 1 := rfl
  rw [e, List.length_map] at this
  exact this
def lvS (N : Nat) (L : List ByteArray) : AV := if L = [] then .sl [] true else .ref N 1 0 L.length .full
def obS (L : List ByteArray) : List (Option (List AV)) := if L = [] then [] else [some (flatA (strsA L))]
theorem lvS_nil (N : Nat) : lvS N [] = .sl [] true := rfl
theorem obS_nil : obS [] = [] := rfl
theorem lvS_cons {N : Nat} {L : List ByteArray} (h : L ≠ []) : lvS N L = .ref N 1 0 L.length .full := if_neg h
theorem obS_cons {L : List ByteArray} (h : L ≠ []) : obS L = [some (flatA (strsA L))] := if_neg h
theorem lvS_lt (L : List ByteArray) : AV.lt (obS L).length (lvS 0 L) = true := by
  by_cases hL : L = []
  · rw [hL, lvS_nil]; rfl
  · rw [obS_cons hL, lvS_cons hL]; simp
theorem strS_snoc (L : List ByteArray) (s : ByteArray) : flatA (strsA L) ++ [.str s] = flatA (strsA (L ++ [s])) := by
  rw [flatA_append]; rfl
@[simp] theorem gath_str (l : List ByteArray) (n : Nat) (h : n = l.length) : gath 1 n (flatA (mapA strA l)) = mapA strA l := flatA_gath l n h
def ftSt (l : List Fr) (i : Nat) : St := ⟨tl [(3, lvS 0 ((l.map frS).take i)), (7, .sl (frsA l) false), (8, .int .i64 l.length), (9, .int .i64 i)], ⟨obS ((l.map frS).take i)⟩⟩
noncomputable def sp_fracsText : List AV → Option (AV) := pf (ι := (List Fr)) (α := AV) (fun l => allOk l = true ∧ l.length ≤ 256) (fun l => [.sl (frsA l) false]) (fun l => .str (fracsT l))
theorem sp_fracsText_eq (l : List Fr) (h : allOk l = true ∧ l.length ≤ 256) : sp_fracsText [.sl (frsA l) false] = some (.str (fracsT l)) := by
  unfold sp_fracsText
  exact pf_eq (ι := (List Fr)) (α := AV) l h (by rintro l' _ e; simp_all [Int.natCast_inj])
theorem q_impl_fractionsText : QP PP 107 sp_fracsText := by
  refine QP_pf (fun l h => ?_) fun l h => ?_
  · exact ⟨by first | rfl | simp, by first | rfl | simp⟩
  replace h : allOk l = true ∧ l.length ≤ 256 := h
  refine P_code (Quiet.q1 q_impl_Fraction_text (Quiet.e1 q_strings_Join.toR Quiet.nil)) hmix k_impl_fractionsText rfl ?_ ?_
  · first | rfl | simp
  show wpc 0 PP _ c_impl_fractionsText (initSt [.sl (frsA l) false] .nil) (endP r_impl_fractionsText (.str (fracsT l)))
  obtain ⟨ho, hl⟩ := h
  have hj := sp_joinS_eq (l.map frS) oneB ⟨by simp; omega, by have := fracsT_size ho; unfold fracsT at this; omega⟩
  simp -dsimp -implicitDefEqProofs [c_impl_fractionsText, r_impl_fractionsText]
  refine wpLoop_st (ftSt l) (fun i => i ≤ l.length) (fun i => l.length - i) 0 (by omega) (Sub.keep (by simp [ftSt, obS_nil]) (by simp [hsub, ftSt, obS_nil]) (by simp [ftSt, lvS_nil])) ?_
  intro i hi
  simp -dsimp -implicitDefEqProofs [ftSt]
  refine brW_of (fun h => ?_) (fun h => ?_) <;> simp only [decide_eq_true_eq, decide_eq_false_iff_not] at h
  · have hx : i < l.length := by omega
    have hwi := wrapNat (i := i) (by omega)
    have hb := frOk_bd (allOk_get ho l[i] (List.getElem_mem hx))
    have ht := sp_frText_eq l[i].p l[i].q ⟨by omega, by omega⟩
    have e4 : (l.map frS).take (i + 1) = (l.map frS).take i ++ [frS l[i]] := by rw [take_snoc (l.map frS) i (by simpa using hx), List.getElem_map]
    have hlen : ((l.map frS).take i).length = i := by simp; omega
    have e6 : frT l[i].p l[i].q = frS l[i] := rfl
    have e2 := strS_snoc ((l.map frS).take i) (frS l[i])
    by_cases hL : (l.map frS).take i = []
    · rw [hL] at e4
      have l1 : 1 * 17 ≤ mostBytes := by decide
      rw [hL]
      simp -dsimp -implicitDefEqProofs [hx, ht, hwi, lvS_nil, obS_nil, l1, e6]
      exact .mk (i + 1) (by omega) (by omega) (Sub.mk' (fun b => if b = 0 then 2 else b) (by simp) (by intro b hb; simp at hb <;> omega) (by show injB _ (obS ((l.map frS).take (i + 1))).length = true; rw [e4, obS_cons (by simp)]; rfl) (by simp [hsub, ftSt, e4, obS, flatA_cons]) (by simp [ftSt, e4, lvS, obS, hwi]))
    · generalize hL2 : (l.map frS).take (i + 1) = L2 at *
      generalize (l.map frS).take i = L at *
      have l1 : (L.length + 1) * 17 ≤ mostBytes := by simp only [mostBytes]; omega
      have l2 : ¬ (L.length + 1 ≤ L.length) := by omega
      have l3 : (flatA (strsA L)).take L.length = flatA (strsA L) := List.take_of_length_le (by simp)
      have e5 : L2 ≠ [] := by rw [e4]; simp
      simp -dsimp -implicitDefEqProofs [hx, ht, hwi, l1, l2, l3, e2, e6, lvS_cons hL, obS_cons hL]
      exact .mk (i + 1) (by omega) (by omega) (Sub.mk' (fun b => if b = 0 then 3 else b) (by simp) (by intro b hb; simp at hb <;> omega) (by show injB _ (obS ((l.map frS).take (i + 1))).length = true; rw [hL2, obS_cons e5]; rfl) (by simp [hsub, ftSt, hL2, e4, obS_cons]) (by simp [ftSt, hL2, e4, lvS_cons, obS_cons, hwi]))
  · obtain rfl : i = l.length := by omega
    rw [show (l.map frS).take l.length = l.map frS from List.take_of_length_le (by simp)]
    unfold fracsT
    by_cases hL : l.map frS = []
    · rw [hL] at hj ⊢
      have hj' : sp_joinS [.sl [] false, .str ⟨#[32]⟩] = some (.str (joinT [] oneB)) := hj
      simp -dsimp -implicitDefEqProofs [lvS_nil, obS_nil, hj']
    · generalize l.map frS = L at *
      have hj' : sp_joinS [.sl (strsA L) false, .str ⟨#[32]⟩] = some (.str (joinT L oneB)) := hj
      simp -dsimp -implicitDefEqProofs [lvS_cons hL, obS_cons hL, hj']
end Go.Proofs.YtjfoenibffdoeaaDoorAi
end

section
/- Contracts: texts of matrices of the program. -/
namespace Go.Proofs.YtjfoenibffdoeaaDoorAi
open Go Go.RowKit
set_option linter.unusedVariables false
set_option linter.unusedSimpArgs false
set_option maxRecDepth 20000

def lineB : ByteArray := ⟨#[10]⟩
def matW (w : ByteArray) (M : List (List Fr)) : ByteArray := M.foldl (fun w r => w ++ (fracsT r ++ lineB)) w
def matX (M : List (List Fr)) : ByteArray := matW noB M
theorem matW_snoc (w : ByteArray) (M : List (List Fr)) (i : Nat) (h : i < M.length) : matW w (M.take (i + 1)) = matW w (M.take i) ++ (fracsT M[i] ++ lineB) := by
  rw [take_snoc M i h]; unfold matW; rw [List.foldl_append]; rfl
theorem matW_size (M : List (List Fr)) (h : ∀ r ∈ M, allOk r = true ∧ r.length ≤ 256) : ∀ w, (matW w M).size ≤ w.size + M.length * 12000 := by
  induction M with
  | nil => intro w; simp [matW]
  | cons r M ih =>
    intro w
    have h1 := ih (fun y hy => h y (List.mem_cons_of_mem _ hy)) (w ++ (fracsT r ++ lineB))
    have hr := h r (List.mem_cons_self ..)
    have h2 := fracsT_size hr.1
    have h3 : lineB.size = 1 := rfl
    show (matW (w ++ (fracsT r ++ lineB)) M).size ≤ _
    simp only [ByteArray.size_append] at h1
    rw [List.length_cons]
    omega
noncomputable def sp_matX : List AV → Option (AV) := pf (ι := (List (List Fr))) (α := AV) (fun M => M.length ≤ 8 ∧ ∀ r ∈ M, allOk r = true ∧ r.length ≤ 256) (fun M => [.sl (rowsA M) false]) (fun M => .str (matX M))
theorem sp_matX_eq (M : List (List Fr)) (h : M.length ≤ 8 ∧ ∀ r ∈ M, allOk r = true ∧ r.length ≤ 256) : sp_matX [.sl (rowsA M) false] = some (.str (matX M)) := by
  unfold sp_matX
  exact pf_eq (ι := (List (List Fr))) (α := AV) M h (by rintro M' _ e; simp_all [Int.natCast_inj])
theorem q_impl_matrixText : QP PP 70 sp_matX := by
  refine QP_pf (fun M h => ?_) fun M h => ?_
  · exact ⟨by first | rfl | simp, by first | rfl | simp⟩
  replace h : M.length ≤ 8 ∧ ∀ r ∈ M, allOk r = true ∧ r.length ≤ 256 := h
  refine P_code (Quiet.q1 q_impl_fractionsText Quiet.nil) hmix k_impl_matrixText rfl ?_ ?_
  · first | rfl | simp
  show wpc 0 PP _ c_impl_matrixText (initSt [.sl (rowsA M) false] .nil) (endP r_impl_matrixText (.str (matX M)))
  obtain ⟨hl, hr⟩ := h
  simp -dsimp -implicitDefEqProofs [c_impl_matrixText, r_impl_matrixText]
  refine wpLoop_st (fun (i : Nat) => ⟨tl [(3, .str (matW noB (M.take i))), (6, .sl (rowsA M) false), (7, .int .i64 M.length), (8, .int .i64 i)], ⟨[]⟩⟩) (fun i => i ≤ M.length) (fun i => M.length - i) 0 (by omega) (Sub.keep (by simp) (by simp [hsub]) (by simp [matW, noB])) ?_
  intro i hi
  simp -dsimp -implicitDefEqProofs
  refine brW_of (fun h => ?_) (fun h => ?_) <;> simp only [decide_eq_true_eq, decide_eq_false_iff_not] at h
  · have hx : i < M.length := by omega
    have hwi := wrapNat (i := i) (by omega)
    have hri := hr M[i] (List.getElem_mem hx)
    have ht := sp_fracsText_eq M[i] hri
    have hsn := matW_snoc noB M i hx
    have s1 := fracsT_size hri.1
    have s2 := matW_size (M.take i) (fun r hr' => hr r (List.mem_of_mem_take hr')) noB
    have s3 : (M.take i).length ≤ 8 := by rw [List.length_take]; omega
    have s4 : noB.size = 0 := rfl
    have z1 : (fracsT M[i]).size + 1 ≤ 9223372036854775807 := by omega
    have z2 : (matW noB (M.take i)).size + ((fracsT M[i]).size + 1) ≤ 9223372036854775807 := by omega
    simp -dsimp -implicitDefEqProofs [hx, hwi, ht, z1, z2]
    exact .mk (i + 1) (by omega) (by omega) (Sub.keep (by simp) (by simp [hsub]) (by simp [hsn, lineB, hwi]))
  · obtain rfl : i = M.length := by omega
    simp -dsimp -implicitDefEqProofs [matX]
end Go.Proofs.YtjfoenibffdoeaaDoorAi
end

section
/- Contracts: valid matrices. -/
namespace Go.Proofs.YtjfoenibffdoeaaDoorAi
open Go Go.RowKit
set_option linter.unusedVariables false
set_option linter.unusedSimpArgs false
set_option maxRecDepth 20000

def sqP (M : List (List Fr)) : Prop := ∀ i (h : i < M.length), M[i].length = M.length
def symAt (M : List (List Fr)) (hs : sqP M) (i j : Nat) : Prop := ∀ (hi : i < M.length) (hj : j < M.length), (M[i]'hi)[j]'(by rw [hs i hi]; exact hj) = (M[j]'hj)[i]'(by rw [hs j hj]; exact hi)
def MatP (M : List (List Fr)) : Prop := M.length ≤ 8 ∧ (∀ r ∈ M, allOk r = true) ∧ ∃ hs : sqP M, ∀ i j, symAt M hs i j
open Classical in
noncomputable def matB (M : List (List Fr)) : Bool := decide (MatP M)
theorem matB_true {M : List (List Fr)} (h : MatP M) : matB M = true := by unfold matB; simp [h]
theorem matB_false {M : List (List Fr)} (h : ¬ MatP M) : matB M = false := by unfold matB; simp [h]
theorem matB_P {M : List (List Fr)} (h : matB M = true) : MatP M := by unfold matB at h; simpa using h
def rowBad (M : List (List Fr)) (r : List Fr) : Bool := !(decide (r.length = M.length)) || !(decide (r.length ≤ 256) && allOk r)
noncomputable def sp_rowBad : List (Option (List AV)) → List AV → Option (AV × List (Option (List AV))) := pv (pf (ι := (List (List Fr)) × (List Fr)) (α := AV × List (Option (List AV))) (fun ⟨M, r⟩ => r.length ≤ maxLen ∧ M.length ≤ 8) (fun i => .agg (((fun ⟨M, r⟩ => [some [.sl (rowsA M) false]] : (List (List Fr)) × (List Fr) → List (Option (List AV))) i).map enO) :: (fun ⟨M, r⟩ => [.sl (frsA r) false, .ptr 0 0] : (List (List Fr)) × (List Fr) → List AV) i) (fun ⟨M, r⟩ => (.bool (rowBad M r), [some [.sl (rowsA M) false]])))
theorem sp_rowBad_eq (M : List (List Fr)) (r : List Fr) (h : r.length ≤ maxLen ∧ M.length ≤ 8) : sp_rowBad [some [.sl (rowsA M) false]] [.sl (frsA r) false, .ptr 0 0] = some (.bool (rowBad M r), [some [.sl (rowsA M) false]]) := by
  unfold sp_rowBad pv
  exact pf_eq (ι := (List (List Fr)) × (List Fr)) (α := AV × List (Option (List AV))) (M, r) h (by rintro ⟨M', r'⟩ _ e; simp_all [enO, Int.natCast_inj])
theorem v_impl_ValidMatrix_1 : QV PP 105 sp_rowBad := by
  refine QV_pf fun i h => ?_
  obtain ⟨M, r⟩ := i
  replace h : r.length ≤ maxLen ∧ M.length ≤ 8 := h
  refine H_code (Quiet.q1 q_impl_validList Quiet.nil) hmix k_impl_ValidMatrix_1 rfl (fun b => b) (by simp [AHeap.n]) (fun _ _ => rfl) (by rfl) (by first | rfl | simp) ?_
  show wpc _ PP _ c_impl_ValidMatrix_1 (initSt [.sl (frsA r) false, .ptr 0 0] ⟨[some [.sl (rowsA M) false]]⟩) (endH (fun b => b) r_impl_ValidMatrix_1 (.bool (rowBad M r)) [some [.sl (rowsA M) false]])
  have hv := sp_validL_eq r h.1
  unfold rowBad
  by_cases hl : r.length = M.length
  · have hl' : ((r.length : Int) != (M.length : Int)) = false := by simp [hl]
    cases hd : decide (r.length ≤ 256) <;> cases ha : allOk r <;> rw [hd, ha] at hv <;> simp -dsimp -implicitDefEqProofs [c_impl_ValidMatrix_1, r_impl_ValidMatrix_1, hv, hl, hl', hsub]
  · have hl' : ((r.length : Int) != (M.length : Int)) = true := by simp; omega
    simp -dsimp -implicitDefEqProofs [c_impl_ValidMatrix_1, r_impl_ValidMatrix_1, hl, hl', hsub]
theorem e_anyM_bad : QE PP 104 (spAnyM 105 (spV sp_rowBad)) := QE_anyM v_impl_ValidMatrix_1.toE
theorem any_rowBad {M : List (List Fr)} (h8 : M.length ≤ 8) (h : M.any (rowBad M) = false) : (∀ r ∈ M, allOk r = true) ∧ sqP M := by
  have h1 : ∀ r ∈ M, rowBad M r = false := fun r hr => by
    have := List.any_eq_false.1 h r hr
    simpa using this
  refine ⟨fun r hr => ?_, fun i hi => ?_⟩
  · have := h1 r hr
    unfold rowBad at this
    simp only [Bool.or_eq_false_iff, Bool.not_eq_false', Bool.and_eq_true] at this
    exact this.2.2
  · have := h1 M[i] (List.getElem_mem hi)
    unfold rowBad at this
    simp only [Bool.or_eq_false_iff, Bool.not_eq_false', decide_eq_true_eq] at this
    exact this.1
theorem any_rowBad' {M : List (List Fr)} (h : M.any (rowBad M) = true) : ¬ MatP M := by
  rintro ⟨h8, hok, hs, _⟩
  obtain ⟨r, hr, hb⟩ := List.any_eq_true.1 h
  obtain ⟨i, hi, rfl⟩ := List.getElem_of_mem hr
  have h1 := hok _ hr
  have h2 := hs i hi
  unfold rowBad at hb
  rw [h1] at hb
  simp only [h2, decide_true, Bool.not_true, Bool.false_or, Bool.and_true, Bool.not_eq_true', decide_eq_false_iff_not] at hb
  omega
noncomputable def sp_matOk : List AV → Option (AV) := pf (ι := (List (List Fr))) (α := AV) (fun M => M.length ≤ maxLen ∧ ∀ r ∈ M, r.length ≤ maxLen) (fun M => [.sl (rowsA M) false]) (fun M => .bool (matB M))
theorem sp_matOk_eq (M : List (List Fr)) (h : M.length ≤ maxLen ∧ ∀ r ∈ M, r.length ≤ maxLen) : sp_matOk [.sl (rowsA M) false] = some (.bool (matB M)) := by
  unfold sp_matOk
  exact pf_eq (ι := (List (List Fr))) (α := AV) M h (by rintro M' _ e; simp_all [Int.natCast_inj])
theorem q_impl_ValidMatrix : QP PP 69 sp_matOk := by
  refine QP_pf (fun M h => ?_) fun M h => ?_
  · exact ⟨by first | rfl | simp, by first | rfl | simp⟩
  replace h : M.length ≤ maxLen ∧ ∀ r ∈ M, r.length ≤ maxLen := h
  refine P_code (Quiet.e1 e_anyM_bad Quiet.nil) hmix k_impl_ValidMatrix rfl ?_ ?_
  · first | rfl | simp
  show wpc 0 PP _ c_impl_ValidMatrix (initSt [.sl (rowsA M) false] .nil) (endP r_impl_ValidMatrix (.bool (matB M)))
  obtain ⟨hl, hr⟩ := h
  simp only [maxLen] at hl
  by_cases h8 : M.length ≤ 8
  · have h8' : ¬ (8 : Int) < M.length := by omega
    have hany := spAnyM_eq (g := 105) (sp := spV sp_rowBad) (rowBad M) (l := M) (caps := [.ptr 0 0]) (A := ⟨[some [.sl (rowsA M) false]]⟩) (by simp only [maxLen]; omega) rfl (fun x hx => by
      have := sp_rowBad_eq M x ⟨hr x hx, h8⟩
      simp [this])
    cases hb : M.any (rowBad M) with
    | true =>
      rw [hb] at hany
      have hm := matB_false (any_rowBad' hb)
      simp -dsimp -implicitDefEqProofs [c_impl_ValidMatrix, r_impl_ValidMatrix, h8', hany, hm]
    | false =>
      rw [hb] at hany
      obtain ⟨hok, hsq⟩ := any_rowBad h8 hb
      simp -dsimp -implicitDefEqProofs [c_impl_ValidMatrix, r_impl_ValidMatrix, h8', hany]
      refine wpLoop_st (fun (i : Nat) => ⟨tl [(1, .ptr 0 0), (15, .sl (rowsA M) false), (16, .int .i64 M.length), (17, .int .i64 i)], ⟨[some [.sl (rowsA M) false]]⟩⟩) (fun i => i ≤ M.length ∧ ∀ i' j, i' < i → symAt M hsq i' j) (fun i => M.length - i) 0 ⟨by omega, fun i' j h => by omega⟩ (Sub.keep (by simp) (by simp [hsub]) (by simp)) ?_
      rintro i ⟨hi, hsy⟩
      simp -dsimp -implicitDefEqProofs
      refine brW_of (fun h => ?_) (fun h => ?_) <;> simp only [decide_eq_true_eq, decide_eq_false_iff_not] at h
      · have hx : i < M.length := by omega
        have hwi := wrapNat (i := i) (by omega)
        have hri := hsq i hx
        simp -dsimp -implicitDefEqProofs [hx]
        refine wpLoop_st (fun (j : Nat) => ⟨tl [(1, .ptr 0 0), (3, .int .i64 i), (15, .sl (rowsA M) false), (16, .int .i64 M.length), (17, .int .i64 i), (22, .sl (frsA M[i]) false), (23, .int .i64 M.length), (24, .int .i64 j)], ⟨[some [.sl (rowsA M) false]]⟩⟩) (fun j => j ≤ M.length ∧ ∀ j', j' < j → symAt M hsq i j') (fun j => M.length - j) 0 ⟨by omega, fun j' h => by omega⟩ (Sub.keep (by simp) (by simp [hsub]) (by simp [hri])) ?_
        rintro j ⟨hj, hsj⟩
        simp -dsimp -implicitDefEqProofs
        refine brW_of (fun h => ?_) (fun h => ?_) <;> simp only [decide_eq_true_eq, decide_eq_false_iff_not] at h
        · have hy : j < M.length := by omega
          have hwj := wrapNat (i := j) (by omega)
          have hrj := hsq j hy
          have k1 : j < M[i].length := by omega
          have k2 : i < M[j].length := by omega
          by_cases hc : M[j][i] = M[i][j]
          · simp -dsimp -implicitDefEqProofs [hx, hy, hwj, hrj, hri, k1, k2, hc]
            exact .mk (j + 1) ⟨by omega, fun j' h' => by
              by_cases e : j' = j
              · subst e; intro _ _; exact hc.symm
              · exact hsj j' (by omega)⟩ (by omega) (Sub.keep (by simp) (by simp [hsub]) (by simp [hwj]))
          · have hm := matB_false (M := M) (by
              rintro ⟨_, _, hs, h2⟩
              exact hc (h2 i j hx hy).symm)
            have hc' : (M[j][i].p == M[i][j].p && M[j][i].q == M[i][j].q) = false := by
              cases e : (M[j][i].p == M[i][j].p && M[j][i].q == M[i][j].q) with
              | false => rfl
              | true =>
                exfalso; apply hc
                simp only [Bool.and_eq_true, beq_iff_eq] at e
                generalize M[j][i] = a at e ⊢
                generalize M[i][j] = b at e ⊢
                obtain ⟨a1, a2⟩ := a; obtain ⟨b1, b2⟩ := b
                simp only at e
                rw [e.1, e.2]
            simp -dsimp -implicitDefEqProofs [hx, hy, hwj, hrj, hri, k1, k2, hc', hm]
        · have : j = M.length := by omega
          subst this
          simp -dsimp -implicitDefEqProofs [hwi]
          exact .mk (i + 1) ⟨by omega, fun i' j' h' => by
            by_cases e : i' = i
            · subst e; intro hi' hj'; exact hsj j' hj' hi' hj'
            · exact hsy i' j' (by omega)⟩ (by omega) (Sub.keep (by simp) (by simp [hsub]) (by simp [hwi]))
      · have : i = M.length := by omega
        subst this
        have hm := matB_true (M := M) ⟨h8, hok, hsq, fun i' j' hi' hj' => hsy i' j' hi' hi' hj'⟩
        simp -dsimp -implicitDefEqProofs [hm]
  · have h8' : (8 : Int) < M.length := by omega
    have hm := matB_false (M := M) (fun h => h8 h.1)
    simp -dsimp -implicitDefEqProofs [c_impl_ValidMatrix, r_impl_ValidMatrix, h8', hm]
end Go.Proofs.YtjfoenibffdoeaaDoorAi
end

section
/- Contracts: valid matrices of the reference, texts of matrices. -/
namespace Go.Proofs.YtjfoenibffdoeaaDoorAi
open Go Go.RowKit
set_option linter.unusedVariables false
set_option linter.unusedSimpArgs false
set_option maxRecDepth 20000

def okAt (M : List (List Fr)) (hs : sqP M) (i j : Nat) : Prop := ∀ (hi : i < M.length) (hj : j < M.length), frOk ((M[i]'hi)[j]'(by rw [hs i hi]; exact hj)).p ((M[i]'hi)[j]'(by rw [hs i hi]; exact hj)).q = true
theorem fr_ne {a b : Fr} (h : a ≠ b) : (a.p == b.p && a.q == b.q) = false := by
  cases e : (a.p == b.p && a.q == b.q) with
  | false => rfl
  | true =>
    exfalso; apply h
    simp only [Bool.and_eq_true, beq_iff_eq] at e
    obtain ⟨a1, a2⟩ := a; obtain ⟨b1, b2⟩ := b
    simp only at e
    rw [e.1, e.2]
theorem matP_of {M : List (List Fr)} (h8 : M.length ≤ 8) (hsq : sqP M) (h : ∀ i' j, i' < M.length → okAt M hsq i' j ∧ symAt M hsq i' j) : MatP M := by
  refine ⟨h8, fun r hr => ?_, hsq, fun i j hi hj => (h i j hi).2 hi hj⟩
  obtain ⟨i, hi, rfl⟩ := List.getElem_of_mem hr
  unfold allOk
  refine List.all_eq_true.2 fun x hx => ?_
  obtain ⟨j, hj, rfl⟩ := List.getElem_of_mem hx
  exact (h i j hi).1 hi (by rw [← hsq i hi]; exact hj)
theorem q_spec_l02Matrix : QP PP 67 sp_matOk := by
  refine QP_pf (fun M h => ?_) fun M h => ?_
  · exact ⟨by first | rfl | simp, by first | rfl | simp⟩
  replace h : M.length ≤ maxLen ∧ ∀ r ∈ M, r.length ≤ maxLen := h
  refine P_code (Quiet.q1 q_spec_l02Ok Quiet.nil) hmix k_spec_l02Matrix rfl ?_ ?_
  · first | rfl | simp
  show wpc 0 PP _ c_spec_l02Matrix (initSt [.sl (rowsA M) false] .nil) (endP r_spec_l02Matrix (.bool (matB M)))
  obtain ⟨hl, hr⟩ := h
  simp only [maxLen] at hl
  by_cases h8 : M.length ≤ 8
  · have h8' : ¬ (8 : Int) < M.length := by omega
    simp -dsimp -implicitDefEqProofs [c_spec_l02Matrix, r_spec_l02Matrix, h8']
    refine wpLoop_st (fun (i : Nat) => ⟨tl [(0, .sl (rowsA M) false), (3, .int .i64 i)], ⟨[]⟩⟩) (fun i => i ≤ M.length ∧ ∀ i' (h : i' < M.length), i' < i → M[i'].length = M.length) (fun i => M.length - i) 0 ⟨by omega, fun i' _ h => by omega⟩ (Sub.keep (by simp) (by simp [hsub]) (by simp)) ?_
    rintro i ⟨hi, hq⟩
    simp -dsimp -implicitDefEqProofs
    refine brW_of (fun h => ?_) (fun h => ?_) <;> simp only [decide_eq_true_eq, decide_eq_false_iff_not] at h
    · have hx : i < M.length := by omega
      have hwi := wrapNat (i := i) (by omega)
      by_cases he : M[i].length = M.length
      · have he' : ((M[i].length : Int) != (M.length : Int)) = false := by simp [he]
        simp -dsimp -implicitDefEqProofs [hx, hwi, he']
        exact .mk (i + 1) ⟨by omega, fun i' hi' h' => by
          by_cases e : i' = i
          · subst e; exact he
          · exact hq i' hi' (by omega)⟩ (by omega) (Sub.keep (by simp) (by simp [hsub]) (by simp [hwi]))
      · have he' : ((M[i].length : Int) != (M.length : Int)) = true := by simp; omega
        have hm := matB_false (M := M) (fun h => he (h.2.2.choose i hx))
        simp -dsimp -implicitDefEqProofs [hx, he', hm]
    · have : i = M.length := by omega
      subst this
      have hsq : sqP M := fun i' hi' => hq i' hi' hi'
      simp -dsimp -implicitDefEqProofs
      refine wpLoop_st (fun (i : Nat) => ⟨tl [(0, .sl (rowsA M) false), (4, .int .i64 i)], ⟨[]⟩⟩) (fun i => i ≤ M.length ∧ ∀ i' j, i' < i → okAt M hsq i' j ∧ symAt M hsq i' j) (fun i => M.length - i) 0 ⟨by omega, fun i' j h => by omega⟩ (Sub.keep (by simp) (by simp [hsub]) (by simp)) ?_
      rintro i ⟨hi, hsy⟩
      simp -dsimp -implicitDefEqProofs
      refine brW_of (fun h => ?_) (fun h => ?_) <;> simp only [decide_eq_true_eq, decide_eq_false_iff_not] at h
      · have hx : i < M.length := by omega
        have hwi := wrapNat (i := i) (by omega)
        have hri := hsq i hx
        simp -dsimp -implicitDefEqProofs [hx]
        refine wpLoop_st (fun (j : Nat) => ⟨tl [(0, .sl (rowsA M) false), (4, .int .i64 i), (5, .int .i64 j)], ⟨[]⟩⟩) (fun j => j ≤ M.length ∧ ∀ j', j' < j → okAt M hsq i j' ∧ symAt M hsq i j') (fun j => M.length - j) 0 ⟨by omega, fun j' h => by omega⟩ (Sub.keep (by simp) (by simp [hsub]) (by simp)) ?_
        rintro j ⟨hj, hsj⟩
        simp -dsimp -implicitDefEqProofs
        refine brW_of (fun h => ?_) (fun h => ?_) <;> simp only [decide_eq_true_eq, decide_eq_false_iff_not] at h
        · have hy : j < M.length := by omega
          have hwj := wrapNat (i := j) (by omega)
          have hrj := hsq j hy
          have k1 : j < M[i].length := by omega
          have k2 : i < M[j].length := by omega
          have hok := sp_frOk_eq M[i][j].p M[i][j].q
          cases hf : frOk M[i][j].p M[i][j].q with
          | false =>
            rw [hf] at hok
            have hm := matB_false (M := M) (by
              rintro ⟨_, h2, _⟩
              have := allOk_get (h2 M[i] (List.getElem_mem hx)) M[i][j] (List.getElem_mem k1)
              rw [hf] at this; cases this)
            simp -dsimp -implicitDefEqProofs [hx, hy, hrj, hri, k1, k2, hok, hf, hm]
          | true =>
            rw [hf] at hok
            by_cases hc : M[i][j] = M[j][i]
            · have hce : frOk M[j][i].p M[j][i].q = true := by rw [← hc]; exact hf
              rw [hc] at hok
              simp -dsimp -implicitDefEqProofs [hx, hy, hwj, hrj, hri, k1, k2, hc, hok, hce]
              exact .mk (j + 1) ⟨by omega, fun j' h' => by
                by_cases e : j' = j
                · subst e; exact ⟨fun _ _ => hf, fun _ _ => hc⟩
                · exact hsj j' (by omega)⟩ (by omega) (Sub.keep (by simp) (by simp [hsub]) (by simp [hwj]))
            · have hm := matB_false (M := M) (by
                rintro ⟨_, _, hs, h2⟩
                exact hc (h2 i j hx hy))
              have hc' := fr_ne hc
              simp -dsimp -implicitDefEqProofs [hx, hy, hwj, hrj, hri, k1, k2, hok, hf, hc', hm]
        · have : j = M.length := by omega
          subst this
          simp -dsimp -implicitDefEqProofs [hwi]
          exact .mk (i + 1) ⟨by omega, fun i' j' h' => by
            by_cases e : i' = i
            · subst e; exact ⟨fun hi' hj' => (hsj j' hj').1 hi' hj', fun hi' hj' => (hsj j' hj').2 hi' hj'⟩
            · exact hsy i' j' (by omega)⟩ (by omega) (Sub.keep (by simp) (by simp [hsub]) (by simp [hwi]))
      · have : i = M.length := by omega
        subst this
        have hm := matB_true (matP_of h8 hsq fun i' j hi' => hsy i' j hi')
        simp -dsimp -implicitDefEqProofs [hm]
  · have h8' : (8 : Int) < M.length := by omega
    have hm := matB_false (M := M) (fun h => h8 h.1)
    simp -dsimp -implicitDefEqProofs [c_spec_l02Matrix, r_spec_l02Matrix, h8', hm]
end Go.Proofs.YtjfoenibffdoeaaDoorAi
end

section
/- The law of ValidPattern. -/
namespace Go.Proofs.YtjfoenibffdoeaaDoorAi
open Go Go.RowKit
set_option linter.unusedVariables false
set_option linter.unusedSimpArgs false

theorem wt_list {α : Type} {f : α → AV} {t : Ty} (hf : ∀ y, WtV t y → ∃ x, y = f x) : ∀ {xs : List AV}, (∀ y ∈ xs, WtV t y) → ∃ l, xs = mapA f l
  | [], _ => ⟨[], rfl⟩
  | x :: xs, h => by
    obtain ⟨l, hl⟩ := wt_list hf fun y hy => h y (List.mem_cons_of_mem _ hy)
    obtain ⟨a, rfl⟩ := hf x (h x (List.mem_cons_self ..))
    exact ⟨a :: l, by rw [hl]; rfl⟩
abbrev tyFr : Ty := .st [.int .i64, .int .i64]
theorem wt_fr (y : AV) (h : WtV tyFr y) : ∃ x, y = frA x := by
  simp only [tyFr, WtV_st, WtL_int, WtL_nil] at h
  obtain ⟨_, rfl, p, _, rfl, _, q, _, rfl, _, rfl⟩ := h
  exact ⟨⟨p, q⟩, rfl⟩
abbrev tyPattern : Ty := .st [.st [.int .i64, .int .u32], .int .u32, .sl tyFr]
theorem wt_pattern {x : AV} (h : WtV tyPattern x) : ∃ n e l ps, x = .agg [.int .i64 n, .int .u32 e, .int .u32 l, .sl (frsA ps) false] ∧ ((0 ≤ e ∧ e ≤ 4294967295) ∧ (0 ≤ l ∧ l ≤ 4294967295) ∧ ps.length ≤ maxLen) := by
  simp only [tyPattern, WtV_st, WtL_st, WtL_int, WtL_sl, WtL_nil] at h
  obtain ⟨_, rfl, _, _, rfl, ⟨n, _, rfl, _, e, _, rfl, he, rfl⟩, l, _, rfl, hl, xs, _, rfl, ⟨hlen, hx⟩, rfl⟩ := h
  obtain ⟨ps, rfl⟩ := wt_list (t := tyFr) wt_fr (by simpa only [tyFr, WtV_st, WtL_int, WtL_nil] using hx)
  exact ⟨n, e, l, ps, rfl, ⟨by simpa [IntKind.min, IntKind.signed] using he.1, by simpa [IntKind.max, IntKind.signed, IntKind.bits] using he.2⟩, ⟨by simpa [IntKind.min, IntKind.signed] using hl.1, by simpa [IntKind.max, IntKind.signed, IntKind.bits] using hl.2⟩, by simpa using hlen⟩

end Go.Proofs.YtjfoenibffdoeaaDoorAi
end

section
/- Contracts and law: MatrixText. -/
namespace Go.Proofs.YtjfoenibffdoeaaDoorAi
open Go Go.RowKit
set_option linter.unusedVariables false
set_option linter.unusedSimpArgs false
set_option maxRecDepth 20000

theorem append_noB (a : ByteArray) : a ++ noB = a := by apply ByteArray.ext; simp [noB]
noncomputable def matT (M : List (List Fr)) : ByteArray := if matB M = true then matX M else noB
theorem matP_rows {M : List (List Fr)} (h : MatP M) : ∀ r ∈ M, allOk r = true ∧ r.length ≤ 256 := by
  intro r hr
  refine ⟨h.2.1 r hr, ?_⟩
  obtain ⟨i, hi, rfl⟩ := List.getElem_of_mem hr
  have := h.2.2.choose i hi
  have := h.1
  omega
noncomputable def sp_matText : List AV → Option (AV) := pf (ι := (List (List Fr))) (α := AV) (fun M => M.length ≤ maxLen ∧ ∀ r ∈ M, r.length ≤ maxLen) (fun M => [.sl (rowsA M) false]) (fun M => .str (matT M))
theorem sp_matText_eq (M : List (List Fr)) (h : M.length ≤ maxLen ∧ ∀ r ∈ M, r.length ≤ maxLen) : sp_matText [.sl (rowsA M) false] = some (.str (matT M)) := by
  unfold sp_matText
  exact pf_eq (ι := (List (List Fr))) (α := AV) M h (by rintro M' _ e; simp_all [Int.natCast_inj])
theorem q_impl_MatrixText : QP PP 28 sp_matText := by
  refine QP_pf (fun M h => ?_) fun M h => ?_
  · exact ⟨by first | rfl | simp, by first | rfl | simp⟩
  replace h : M.length ≤ maxLen ∧ ∀ r ∈ M, r.length ≤ maxLen := h
  refine P_code (Quiet.q1 q_impl_matrixText (Quiet.e1 q_impl_ValidMatrix.toR Quiet.nil)) hmix k_impl_MatrixText rfl ?_ ?_
  · first | rfl | simp
  show wpc 0 PP _ c_impl_MatrixText (initSt [.sl (rowsA M) false] .nil) (endP r_impl_MatrixText (.str (matT M)))
  have hv := sp_matOk_eq M h
  cases hb : matB M with
  | false =>
    rw [hb] at hv
    simp -dsimp -implicitDefEqProofs [c_impl_MatrixText, r_impl_MatrixText, hv, hb, matT, noB]
  | true =>
    rw [hb] at hv
    have hP := matB_P hb
    have ht := sp_matX_eq M ⟨hP.1, matP_rows hP⟩
    simp -dsimp -implicitDefEqProofs [c_impl_MatrixText, r_impl_MatrixText, hv, hb, matT, ht]
theorem fracsT_snoc (l : List Fr) (j : Nat) (h : j < l.length) : fracsT (l.take (j + 1)) = if j = 0 then frS l[j] else fracsT (l.take j) ++ (oneB ++ frS l[j]) := by
  unfold fracsT
  rw [take_snoc l j h, List.map_append]
  by_cases e : j = 0
  · subst e
    rw [if_pos rfl]
    show joinT ([] ++ [frS l[0]]) oneB = _
    rw [List.nil_append, joinT_one]
  · rw [if_neg e]
    have : (l.take j).map frS ≠ [] := by
      intro h0
      have := congrArg List.length h0
      rw [List.length_map, List.length_take, List.length_nil] at this
      omega
    exact joinT_snoc _ _ _ this
theorem q_spec_MatrixText : QP PP 26 sp_matText := by
  refine QP_pf (fun M h => ?_) fun M h => ?_
  · exact ⟨by first | rfl | simp, by first | rfl | simp⟩
  replace h : M.length ≤ maxLen ∧ ∀ r ∈ M, r.length ≤ maxLen := h
  refine P_code (Quiet.q1 q_spec_l02Matrix (Quiet.q1 q_spec_FractionText Quiet.nil)) hmix k_spec_MatrixText rfl ?_ ?_
  · first | rfl | simp
  show wpc 0 PP _ c_spec_MatrixText (initSt [.sl (rowsA M) false] .nil) (endP r_spec_MatrixText (.str (matT M)))
  have hv := sp_matOk_eq M h
  cases hb : matB M with
  | false =>
    rw [hb] at hv
    simp -dsimp -implicitDefEqProofs [c_spec_MatrixText, r_spec_MatrixText, hv, hb, matT, noB]
  | true =>
    rw [hb] at hv
    have hP := matB_P hb
    obtain ⟨hl, hok, hsq, _⟩ := hP
    have hrows := matP_rows (matB_P hb)
    unfold matT
    rw [if_pos hb]
    simp -dsimp -implicitDefEqProofs [c_spec_MatrixText, r_spec_MatrixText, hv]
    refine wpLoop_st (fun (i : Nat) => ⟨tl [(0, .sl (rowsA M) false), (3, .str (matW noB (M.take i))), (4, .int .i64 i)], ⟨[]⟩⟩) (fun i => i ≤ M.length) (fun i => M.length - i) 0 (by omega) (Sub.keep (by simp) (by simp [hsub]) (by simp [matW, noB])) ?_
    intro i hi
    simp -dsimp -implicitDefEqProofs
    refine brW_of (fun h => ?_) (fun h => ?_) <;> simp only [decide_eq_true_eq, decide_eq_false_iff_not] at h
    · have hx : i < M.length := by omega
      have hwi := wrapNat (i := i) (by omega)
      have hri := hsq i hx
      have hroi := hrows M[i] (List.getElem_mem hx)
      have s2 := matW_size (M.take i) (fun r hr' => hrows r (List.mem_of_mem_take hr')) noB
      have s3 : (M.take i).length ≤ 8 := by rw [List.length_take]; omega
      have s4 : noB.size = 0 := rfl
      have hsn := matW_snoc noB M i hx
      generalize hW : matW noB (M.take i) = W at *
      simp -dsimp -implicitDefEqProofs [hx]
      refine wpLoop_st (fun (j : Nat) => ⟨tl [(0, .sl (rowsA M) false), (3, .str (W ++ fracsT (M[i].take j))), (4, .int .i64 i), (5, .int .i64 j)], ⟨[]⟩⟩) (fun j => j ≤ M.length) (fun j => M.length - j) 0 (by omega) (Sub.keep (by simp) (by simp [hsub]) (by have e : fracsT [] = noB := rfl; simp [e, append_noB, hW])) ?_
      intro j hj
      simp -dsimp -implicitDefEqProofs
      refine brW_of (fun h => ?_) (fun h => ?_) <;> simp only [decide_eq_true_eq, decide_eq_false_iff_not] at h
      · have hy : j < M.length := by omega
        have hwj := wrapNat (i := j) (by omega)
        have k1 : j < M[i].length := by omega
        have hoj := allOk_get hroi.1 M[i][j] (List.getElem_mem k1)
        have hft := sp_fracText_eq M[i][j].p M[i][j].q
        have e7 : fracT M[i][j].p M[i][j].q = frS M[i][j] := by unfold fracT; rw [if_pos hoj]; rfl
        rw [e7] at hft
        have hts := fracsT_snoc M[i] j k1
        have s5 := frS_size hoj
        have s6 : (fracsT (M[i].take j)).size ≤ 12000 := by
          have h0 : allOk (M[i].take j) = true := by
            unfold allOk
            exact List.all_eq_true.2 fun x hx' => allOk_get hroi.1 x (List.mem_of_mem_take hx')
          have h1 := fracsT_size h0
          rw [List.length_take] at h1
          omega
        by_cases hj0 : j = 0
        · subst hj0
          rw [if_pos rfl] at hts
          have e : fracsT (M[i].take 0) = noB := rfl
          rw [e, append_noB]
          have z1 : W.size + (frS M[i][0]).size ≤ 9223372036854775807 := by omega
          have w1 : IntKind.wrap .i64 1 = 1 := rfl
          have hx0 : (0 : Nat) < M[i].length := k1
          simp -dsimp -implicitDefEqProofs [hx, hy, hwj, hri, k1, hft, z1, e7]
          exact .mk (0 + 1) (by omega) (by omega) (Sub.keep (by simp) (by simp [hsub]) (by simp [hts, w1, e7]))
        · rw [if_neg hj0] at hts
          have hj0' : (0 : Int) < j := by omega
          have z1 : W.size + (fracsT (M[i].take j)).size + 1 ≤ 9223372036854775807 := by omega
          have z2 : W.size + (fracsT (M[i].take j)).size + 1 + (frS M[i][j]).size ≤ 9223372036854775807 := by omega
          have hj0'' : 0 < j := by omega
          simp -dsimp -implicitDefEqProofs [hx, hy, hwj, hri, k1, hft, z1, z2, hj0', hj0'', e7]
          exact .mk (j + 1) (by omega) (by omega) (Sub.keep (by simp) (by simp [hsub]) (by simp [hts, hwj, oneB, ByteArray.append_assoc]))
      · have : j = M.length := by omega
        subst this
        have e8 : M[i].take M.length = M[i] := List.take_of_length_le (by omega)
        rw [e8]
        have s7 := fracsT_size hroi.1
        have z1 : W.size + (fracsT M[i]).size + 1 ≤ 9223372036854775807 := by omega
        simp -dsimp -implicitDefEqProofs [hwi, z1]
        exact .mk (i + 1) (by omega) (by omega) (Sub.keep (by simp) (by simp [hsub]) (by simp [hsn, hwi, lineB, ByteArray.append_assoc]))
    · have : i = M.length := by omega
      subst this
      simp -dsimp -implicitDefEqProofs [matX]
end Go.Proofs.YtjfoenibffdoeaaDoorAi
end

section
/- Law: MatrixText. -/
namespace Go.Proofs.YtjfoenibffdoeaaDoorAi
open Go Go.RowKit
set_option linter.unusedVariables false
set_option linter.unusedSimpArgs false
set_option maxRecDepth 20000

def szM : List (List Fr) → Int → Int
  | [], n => n
  | r :: M, n => if (r.length : Int) ≤ n then szM M (n - r.length) else -1
theorem szM_le : ∀ (M : List (List Fr)) (n : Int), 0 ≤ szM M n → ∀ r ∈ M, (r.length : Int) ≤ n
  | [], _, _ => fun r hr => by cases hr
  | x :: M, n, h => by
    intro r hr
    rw [szM] at h
    split at h
    · rename_i hx
      rcases List.mem_cons.1 hr with rfl | hr
      · exact hx
      · have := szM_le M _ h r hr
        omega
    · omega
noncomputable def sp_szFractionSS : List AV → Option (AV) := pf (ι := (List (List Fr)) × (Int)) (α := AV) (fun ⟨M, n⟩ => 0 ≤ n ∧ n ≤ 1048576 ∧ M.length ≤ maxLen ∧ ∀ r ∈ M, r.length ≤ maxLen) (fun ⟨M, n⟩ => [.sl (rowsA M) false, .int .i64 n]) (fun ⟨M, n⟩ => .int .i64 (if (M.length : Int) ≤ n then szM M (n - M.length) else -1))
theorem sp_szFractionSS_eq (M : List (List Fr)) (n : Int) (h : 0 ≤ n ∧ n ≤ 1048576 ∧ M.length ≤ maxLen ∧ ∀ r ∈ M, r.length ≤ maxLen) : sp_szFractionSS [.sl (rowsA M) false, .int .i64 n] = some (.int .i64 (if (M.length : Int) ≤ n then szM M (n - M.length) else -1)) := by
  unfold sp_szFractionSS
  exact pf_eq (ι := (List (List Fr)) × (Int)) (α := AV) (M, n) h (by rintro ⟨M', n'⟩ _ e; simp_all [Int.natCast_inj])
theorem q_laws_szFractionSS : QP PP 25 sp_szFractionSS := by
  refine QP_pf (fun i h => ?_) fun i h => ?_
  · obtain ⟨M, n⟩ := i; exact ⟨by first | rfl | simp, by first | rfl | simp⟩
  obtain ⟨M, n⟩ := i
  replace h : 0 ≤ n ∧ n ≤ 1048576 ∧ M.length ≤ maxLen ∧ ∀ r ∈ M, r.length ≤ maxLen := h
  refine P_code (Quiet.q1 q_laws_szFractionS Quiet.nil) hmix k_laws_szFractionSS rfl ?_ ?_
  · first | rfl | simp
  show wpc 0 PP _ c_laws_szFractionSS (initSt [.sl (rowsA M) false, .int .i64 n] .nil) (endP r_laws_szFractionSS (.int .i64 (if (M.length : Int) ≤ n then szM M (n - M.length) else -1)))
  obtain ⟨h0, h1, hl, hr⟩ := h
  have hw : IntKind.i64.wrap (n - M.length) = n - M.length := wrapI64 (by simp only [maxLen] at hl; omega) (by omega)
  by_cases hlt : (M.length : Int) ≤ n
  · have h2 : ¬ (n - (M.length : Int) < 0) := by omega
    rw [if_pos hlt]
    simp -dsimp -implicitDefEqProofs [c_laws_szFractionSS, r_laws_szFractionSS, hw, h2]
    refine wpLoop_st (fun (q : Nat × Int) => ⟨tl [(0, .sl (rowsA M) false), (1, .int .i64 q.2), (5, .int .i64 q.1)], ⟨[]⟩⟩) (fun q => q.1 ≤ M.length ∧ (0 ≤ q.2 ∧ q.2 ≤ 1048576) ∧ szM (M.drop q.1) q.2 = szM M (n - M.length)) (fun q => M.length - q.1) (0, n - M.length) ⟨by simp, by simp only; omega, rfl⟩ (Sub.keep (by simp) (by simp [hsub]) (by simp)) ?_
    rintro ⟨i, m⟩ ⟨hi, hm, hs⟩
    simp only at hi hm hs
    simp -dsimp -implicitDefEqProofs
    refine brW_of (fun h => ?_) (fun h => ?_) <;> simp only [decide_eq_true_eq, decide_eq_false_iff_not] at h
    · have hx : i < M.length := by omega
      have hwi := wrapNat (i := i) (by omega)
      have hz := sp_szFractionS_eq M[i] m ⟨hm.1, hm.2, hr _ (List.getElem_mem hx)⟩
      rw [drop_cons hx, szM] at hs
      by_cases hc : (M[i].length : Int) ≤ m
      · rw [if_pos hc] at hz hs
        have h3 : ¬ (m - (M[i].length : Int) < 0) := by omega
        simp -dsimp -implicitDefEqProofs [hx, hwi, hz, h3]
        exact .mk (i + 1, m - M[i].length) ⟨by simp only; omega, by simp only; omega, hs⟩ (by simp only; omega) (Sub.keep (by simp) (by simp [hsub]) (by simp [hwi]))
      · rw [if_neg hc] at hz hs
        simp -dsimp -implicitDefEqProofs [hx, hz, ← hs]
    · have : i = M.length := by omega
      subst this
      rw [List.drop_length, szM] at hs
      simp -dsimp -implicitDefEqProofs [hs]
  · have h2 : n - (M.length : Int) < 0 := by omega
    rw [if_neg hlt]
    simp -dsimp -implicitDefEqProofs [c_laws_szFractionSS, r_laws_szFractionSS, hw, h2]
theorem rowsA_cells (M : List (List Fr)) : ∀ x ∈ rowsA M, x.cells.length = 1 ∧ ltL 0 x.cells = true := by
  intro x hx
  obtain ⟨p, _, rfl⟩ := List.mem_map.1 hx
  exact ⟨rfl, by simp⟩
noncomputable def sp_toFractionSS : List AV → Option (AV) := pf (ι := (List (List Fr))) (α := AV) (fun M => M.length ≤ 1048576 ∧ ∀ r ∈ M, r.length ≤ 1048576) (fun M => [.sl (rowsA M) false]) (fun M => .sl (rowsA M) false)
theorem sp_toFractionSS_eq (M : List (List Fr)) (h : M.length ≤ 1048576 ∧ ∀ r ∈ M, r.length ≤ 1048576) : sp_toFractionSS [.sl (rowsA M) false] = some (.sl (rowsA M) false) := by
  unfold sp_toFractionSS
  exact pf_eq (ι := (List (List Fr))) (α := AV) M h (by rintro M' _ e; simp_all [Int.natCast_inj])
theorem q_laws_toFractionSS : QP PP 27 sp_toFractionSS := by
  refine QP_pf (fun M h => ?_) fun M h => ?_
  · exact ⟨by first | rfl | simp, by first | rfl | simp⟩
  replace h : M.length ≤ 1048576 ∧ ∀ r ∈ M, r.length ≤ 1048576 := h
  refine P_code (Quiet.q1 q_laws_toFractionS Quiet.nil) hmix k_laws_toFractionSS rfl ?_ ?_
  · first | rfl | simp
  show wpc 0 PP _ c_laws_toFractionSS (initSt [.sl (rowsA M) false] .nil) (endP r_laws_toFractionSS (.sl (rowsA M) false))
  obtain ⟨hl, hr⟩ := h
  have hm : (M.length : Int) * 25 ≤ (mostBytes : Int) := by simp only [mostBytes]; omega
  simp -dsimp -implicitDefEqProofs [c_laws_toFractionSS, r_laws_toFractionSS, hm]
  refine wpLoop_st (fun (i : Nat × List AV) => ⟨tl [(0, .sl (rowsA M) false), (3, .ref 0 1 0 M.length .tight), (4, .int .i64 i.1)], ⟨[some i.2]⟩⟩) (fun i => i.1 ≤ M.length ∧ Filled 1 i.2 (rowsA M) i.1 ∧ ltL 0 i.2 = true) (fun i => M.length - i.1) (0, newCells 1 M.length [.sl [] true])
    ⟨Nat.zero_le _, Filled.zero (by simp [newCells, flat_len]), newCells_lt 1 M.length (by simp)⟩ (Sub.keep (by simp) (by
      have := newCells_lt (n := 1) 1 M.length (z := [.sl [] true]) (by simp)
      simp [hsub, renL_id] at this ⊢
      exact this) (by simp)) ?_
  rintro ⟨i, cs⟩ ⟨h1, h2, h3⟩
  simp -dsimp -implicitDefEqProofs
  refine brW_of (fun h => ?_) (fun h => ?_) <;> simp only [decide_eq_true_eq, decide_eq_false_iff_not] at h
  · have hi : i < M.length := by omega
    have hw := wrapNat (i := i) (by omega)
    have hlc0 : cs.length = M.length * 1 := by have := h2.len; rw [mapA_length] at this; exact this
    have hlc : cs.length = M.length := by omega
    have hfit : i * 1 + 1 ≤ cs.length := by omega
    have hfit' : i + 1 ≤ cs.length := by omega
    have hfit2 : i < cs.length := by omega
    have hto := sp_toFractionS_eq M[i] (hr _ (List.getElem_mem hi))
    simp -dsimp -implicitDefEqProofs [hi, hfit, hfit', hfit2, hw, hto]
    refine .mk (i + 1, setCells cs (i * 1) (rowA M[i]).cells) ⟨by simp only; omega, h2.step (by simp [hi]) rfl, setCells_lt _ _ _ h3 (by simp)⟩ (by simp only; omega) (Sub.keep (by simp) ?_ (by simp))
    have := setCells_lt (n := 1) _ (i * 1) (rowA M[i]).cells (ltL_mono (Nat.zero_le 1) _ h3) (by simp)
    simp [hsub, renL_id, setCells] at this ⊢
    exact this
  · have hi : i = M.length := by omega
    subst hi
    simp -dsimp -implicitDefEqProofs
    have h2' : Filled 1 cs (rowsA M) (rowsA M).length := by rw [mapA_length]; exact h2
    have hlc0 : cs.length = M.length * 1 := by have := h2.len; rw [mapA_length] at this; exact this
    have hlc : cs.length = M.length := by omega
    refine ⟨_, Shift.tmp (k := 2) (b := 0) (e := 1) (o := 0) (n := M.length) (xs := rowsA M) (t' := false) (t := .tight) (cs := cs) (by simp -dsimp) (by simp -dsimp) (by simp) (by omega) (by simp) (rowsA_cells M) (.inl (by rw [h2'.all (fun x hx => (rowsA_cells M x hx).1) (by omega)]; simp [← hlc])), ?_⟩
    simp -dsimp -implicitDefEqProofs
noncomputable def sp_eqFractionSS : List AV → Option (AV) := pf (ι := (List (List Fr)) × (List (List Fr))) (α := AV) (fun ⟨M, K⟩ => M.length ≤ maxLen ∧ ∀ r ∈ M, r.length ≤ maxLen) (fun ⟨M, K⟩ => [.sl (rowsA M) false, .sl (rowsA K) false]) (fun ⟨M, K⟩ => .bool (decide (M = K)))
theorem sp_eqFractionSS_eq (M K : List (List Fr)) (h : M.length ≤ maxLen ∧ ∀ r ∈ M, r.length ≤ maxLen) : sp_eqFractionSS [.sl (rowsA M) false, .sl (rowsA K) false] = some (.bool (decide (M = K))) := by
  unfold sp_eqFractionSS
  exact pf_eq (ι := (List (List Fr)) × (List (List Fr))) (α := AV) (M, K) h (by rintro ⟨M', K'⟩ _ e; simp_all [Int.natCast_inj])
theorem q_laws_eqFractionSS : QP PP 29 sp_eqFractionSS := by
  refine QP_pf (fun i h => ?_) fun i h => ?_
  · obtain ⟨M, K⟩ := i; exact ⟨by first | rfl | simp, by first | rfl | simp⟩
  obtain ⟨M, K⟩ := i
  replace h : M.length ≤ maxLen ∧ ∀ r ∈ M, r.length ≤ maxLen := h
  refine P_code (Quiet.q1 q_laws_eqFractionS Quiet.nil) hmix k_laws_eqFractionSS rfl ?_ ?_
  · first | rfl | simp
  show wpc 0 PP _ c_laws_eqFractionSS (initSt [.sl (rowsA M) false, .sl (rowsA K) false] .nil) (endP r_laws_eqFractionSS (.bool (decide (M = K))))
  obtain ⟨h, hr⟩ := h
  simp only [maxLen] at h
  by_cases hlen : M.length = K.length
  · simp -dsimp -implicitDefEqProofs [c_laws_eqFractionSS, r_laws_eqFractionSS, hlen]
    refine wpLoop_st (fun (i : Nat) => ⟨tl [(0, .sl (rowsA M) false), (1, .sl (rowsA K) false), (5, .int .i64 i)], ⟨[]⟩⟩) (fun i => i ≤ M.length ∧ M.take i = K.take i) (fun i => M.length - i) 0 ⟨Nat.zero_le _, rfl⟩ (Sub.keep (by simp) (by simp [hsub]) (by simp)) ?_
    rintro i ⟨h1, h2⟩
    simp -dsimp -implicitDefEqProofs
    refine brW_of (fun h => ?_) (fun h => ?_) <;> simp only [decide_eq_true_eq, decide_eq_false_iff_not] at h
    · have hi : i < M.length := by omega
      have hj : i < K.length := by omega
      have hw := wrapNat (i := i) (by omega)
      have hq := sp_eqFractionS_eq M[i] K[i] (hr _ (List.getElem_mem hi))
      by_cases he : M[i] = K[i]
      · rw [decide_eq_true he] at hq
        simp -dsimp -implicitDefEqProofs [hi, hj, hw, hq]
        exact .mk (i + 1) ⟨by omega, by rw [take_snoc M i hi, take_snoc K i hj, h2, he]⟩ (by omega) (Sub.keep (by simp) (by simp [hsub]) (by simp [hw]))
      · have hne : ¬ M = K := fun e => he (by subst e; rfl)
        rw [decide_eq_false he] at hq
        simp -dsimp -implicitDefEqProofs [hi, hj, hw, hne, hq]
    · have hi : i = M.length := by omega
      have he : M = K := by
        rw [hi, List.take_length, hlen, List.take_length] at h2
        exact h2
      simp -dsimp -implicitDefEqProofs [he]
  · have hne : ¬ M = K := fun e => hlen (by rw [e])
    have hln : ((M.length : Int) != (K.length : Int)) = true := by simp; omega
    simp -dsimp -implicitDefEqProofs [c_laws_eqFractionSS, r_laws_eqFractionSS, hln, hne]
theorem wt_listQ {α : Type} {f : α → AV} {p : α → Prop} {t : Ty} (hf : ∀ y, WtV t y → ∃ x, y = f x ∧ p x) : ∀ {xs : List AV}, (∀ y ∈ xs, WtV t y) → ∃ l, xs = mapA f l ∧ ∀ x ∈ l, p x
  | [], _ => ⟨[], rfl, fun x hx => (by cases hx)⟩
  | x :: xs, h => by
    obtain ⟨l, hl, hp⟩ := wt_listQ hf fun y hy => h y (List.mem_cons_of_mem _ hy)
    obtain ⟨z, hz, hq⟩ := hf x (h x (List.mem_cons_self ..))
    refine ⟨z :: l, by rw [hz, hl]; rfl, fun y hy => ?_⟩
    rcases List.mem_cons.1 hy with rfl | hy
    · exact hq
    · exact hp y hy
abbrev tyRow : Ty := .sl tyFr
abbrev tyMat : Ty := .sl tyRow
theorem wt_row : ∀ y, WtV tyRow y → ∃ r, y = rowA r ∧ r.length ≤ maxLen := by
  intro y hy
  obtain ⟨xs, rfl, hl, hx⟩ := (WtV_sl tyFr y).1 hy
  obtain ⟨r, rfl⟩ := wt_list (t := tyFr) wt_fr hx
  exact ⟨r, rfl, by simpa using hl⟩
set_option maxHeartbeats 1000000 in
theorem law_matrixText (xs : List AV) (h : WtA [tyMat] xs) : T PP 7 xs .nil fun r _ => r = .bool true := by
  simp only [WtA_cons, WtA_nil] at h
  obtain ⟨x, _, rfl, hx, rfl⟩ := h
  obtain ⟨ys, rfl, hl, hy⟩ := (WtV_sl tyRow x).1 hx
  obtain ⟨M, rfl, hr⟩ := wt_listQ (t := tyRow) wt_row hy
  have hl : M.length ≤ maxLen := by simpa using hl
  refine (P_code (r := .bool true) (Quiet.q1 q_laws_szFractionSS (Quiet.q1 q_laws_toFractionSS (Quiet.q1 q_spec_MatrixText (Quiet.q1 q_impl_MatrixText (Quiet.e1 q_laws_eqFractionSS.toR Quiet.nil))))) hmix k_laws_FnExactMatrixText rfl rfl ?_).mono fun r A' h => h.1
  have hz := sp_szFractionSS_eq M 1048576 ⟨by omega, by omega, hl, hr⟩
  have ht := sp_matText_eq M ⟨hl, hr⟩
  have hq := sp_eqFractionSS_eq M M ⟨hl, hr⟩
  rw [decide_eq_true rfl] at hq
  by_cases c1 : (M.length : Int) ≤ 1048576
  · rw [if_pos c1] at hz
    by_cases c2 : szM M (1048576 - M.length) < 0
    · simp -dsimp -implicitDefEqProofs [c_laws_FnExactMatrixText, r_laws_FnExactMatrixText, hz, c2]
    · have hto := sp_toFractionSS_eq M ⟨by omega, fun r hr => by have := szM_le M (1048576 - M.length) (by omega) r hr; omega⟩
      simp -dsimp -implicitDefEqProofs [c_laws_FnExactMatrixText, r_laws_FnExactMatrixText, hz, c2, hto, ht, hq, bne_ba]
  · rw [if_neg c1] at hz
    simp -dsimp -implicitDefEqProofs [c_laws_FnExactMatrixText, r_laws_FnExactMatrixText, hz]
end Go.Proofs.YtjfoenibffdoeaaDoorAi
end
