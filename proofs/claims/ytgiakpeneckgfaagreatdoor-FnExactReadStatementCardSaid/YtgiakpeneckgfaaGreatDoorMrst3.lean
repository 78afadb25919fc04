/- Contracts, joined. -/
import Derived.Test.YtgiakpeneckgfaaGreatDoorMrst2
import Derived.Test.YtgiakpeneckgfaaGreatDoorAiX
import Derived.Test.YtgiakpeneckgfaaGreatDoorProg
import Derived.Test.YtgiakpeneckgfaaGreatDoorShelfC
section
/- Contracts: texts of lists of fractions and of matrices. -/
namespace Go.Proofs.YtgiakpeneckgfaaGreatDoorAi
open Go Go.RowKit
set_option linter.unusedVariables false
set_option linter.unusedSimpArgs false
set_option maxRecDepth 20000

def frS (x : Fr) : ByteArray := frT x.p x.q
theorem frS_size {x : Fr} (h : frOk x.p x.q = true) : (frS x).size ≤ 43 := by
  have hb := frOk_bd h
  have s1 := decB_size x.p (by omega) (by omega)
  have s2 := decB_size x.q (by omega) (by omega)
  unfold frS frT
  split
  · omega
  · have : slashB.size = 1 := rfl
    simp only [ByteArray.size_append]; omega
def lvS (N : Nat) (L : List ByteArray) : AV := if L = [] then .sl [] true else .ref N 1 0 L.length .full
theorem lvS_nil (N : Nat) : lvS N [] = .sl [] true := rfl
theorem lvS_cons {N : Nat} {L : List ByteArray} (h : L ≠ []) : lvS N L = .ref N 1 0 L.length .full := if_neg h
theorem strS_snoc (L : List ByteArray) (s : ByteArray) : flatA (strsA L) ++ [.str s] = flatA (strsA (L ++ [s])) := by
  rw [flatA_append]; rfl
@[simp] theorem gath_str (l : List ByteArray) (n : Nat) (h : n = l.length) : gath 1 n (flatA (mapA strA l)) = mapA strA l := flatA_gath l n h
end Go.Proofs.YtgiakpeneckgfaaGreatDoorAi
end

section
/- Contracts: texts of matrices of the program. -/
namespace Go.Proofs.YtgiakpeneckgfaaGreatDoorAi
open Go Go.RowKit
set_option linter.unusedVariables false
set_option linter.unusedSimpArgs false
set_option maxRecDepth 20000

def lineB : ByteArray := ⟨#[10]⟩
end Go.Proofs.YtgiakpeneckgfaaGreatDoorAi
end

section
/- Contracts: texts of sums. -/
namespace Go.Proofs.YtgiakpeneckgfaaGreatDoorAi
open Go Go.RowKit
set_option linter.unusedVariables false
set_option linter.unusedSimpArgs false
set_option maxRecDepth 20000

def sumWB : ByteArray := ⟨#[115, 117, 109, 32]⟩
def tmT (x : Tm) : ByteArray := frT x.p x.q ++ sepB ++ grT x.e x.n.toNat ++ lineB
def tmsW (w : ByteArray) (L : List Tm) : ByteArray := L.foldl (fun w x => w ++ tmT x) w
def sumX (tn te s : Int) (L : List Tm) : ByteArray := tmsW (sumWB ++ decB s ++ sepB ++ grT te tn.toNat ++ lineB) L
theorem tmsW_snoc (w : ByteArray) (L : List Tm) (i : Nat) (h : i < L.length) : tmsW w (L.take (i + 1)) = tmsW w (L.take i) ++ tmT L[i] := by
  rw [take_snoc L i h]; unfold tmsW; rw [List.foldl_append]; rfl
def TmIn (x : Tm) : Prop := frOk x.p x.q = true ∧ graphOk x.n x.e = true ∧ 0 ≤ x.e ∧ x.e ≤ 4294967295
theorem tmT_size {x : Tm} (h : TmIn x) : (tmT x).size ≤ 1300 := by
  have h1 := frS_size (x := ⟨x.p, x.q⟩) h.1
  have hn := graphOk_in h.2.1
  have h2 := grT_size (e := x.e) (n := x.n.toNat) (by omega)
  have h3 : sepB.size = 1 := rfl
  have h4 : lineB.size = 1 := rfl
  unfold frS at h1
  unfold tmT
  simp only [ByteArray.size_append]
  simp only at h1
  omega
theorem tmsW_size (L : List Tm) (h : ∀ x ∈ L, TmIn x) : ∀ w, (tmsW w L).size ≤ w.size + L.length * 1300 := by
  induction L with
  | nil => intro w; simp [tmsW]
  | cons r M ih =>
    intro w
    have h1 := ih (fun y hy => h y (List.mem_cons_of_mem _ hy)) (w ++ tmT r)
    have h2 := tmT_size (h r (List.mem_cons_self ..))
    show (tmsW (w ++ tmT r) M).size ≤ _
    simp only [ByteArray.size_append] at h1
    rw [List.length_cons]
    omega
theorem sumX_start {tn te s : Int} (hn : 0 ≤ tn ∧ tn ≤ 5) (hs : 0 ≤ s ∧ s ≤ 5) : (sumWB ++ decB s ++ sepB ++ grT te tn.toNat ++ lineB).size ≤ 1300 := by
  have h1 := decB_size s (by omega) (by omega)
  have h2 := grT_size (e := te) (n := tn.toNat) (by omega)
  have h3 : sepB.size = 1 := rfl
  have h4 : lineB.size = 1 := rfl
  have h5 : sumWB.size = 4 := rfl
  simp only [ByteArray.size_append]
  omega
theorem decB_fr {x : Tm} (h : TmIn x) : sp_frText [.agg [.int .i64 x.p, .int .i64 x.q]] = some (.str (frT x.p x.q)) := by
  have hb := frOk_bd h.1
  exact sp_frText_eq x.p x.q (by omega)
theorem gr_tx {n e : Int} (hn : 0 ≤ n ∧ n ≤ 5) (he : 0 ≤ e ∧ e ≤ 4294967295) : sp_graphTx [.agg [.int .i64 n, .int .u32 e]] = some (.str (grT e n.toNat)) := by
  have := sp_graphTx_eq n.toNat e ⟨by omega, he⟩
  rw [show ((n.toNat : Nat) : Int) = n by omega] at this
  exact this
abbrev sumInH (tn te s : Int) (L : List Tm) : Prop := ((0 ≤ te ∧ te ≤ 4294967295) ∧ graphOk tn te = true) ∧ (0 ≤ s ∧ s ≤ 5) ∧ L.length ≤ 64 ∧ ∀ x ∈ L, TmIn x
noncomputable def sp_sumX : List AV → Option (AV) := pf (ι := (Int) × (Int) × (Int) × (List Tm)) (α := AV) (fun ⟨tn, te, s, L⟩ => sumInH tn te s L) (fun ⟨tn, te, s, L⟩ => [.agg [.int .i64 tn, .int .u32 te, .int .i64 s, .sl (tmsA L) false]]) (fun ⟨tn, te, s, L⟩ => .str (sumX tn te s L))
theorem sp_sumX_eq (tn te s : Int) (L : List Tm) (h : sumInH tn te s L) : sp_sumX [.agg [.int .i64 tn, .int .u32 te, .int .i64 s, .sl (tmsA L) false]] = some (.str (sumX tn te s L)) := by
  unfold sp_sumX
  exact pf_eq (ι := (Int) × (Int) × (Int) × (List Tm)) (α := AV) (tn, te, s, L) h (by rintro ⟨tn', te', s', L'⟩ _ e; simp_all [Int.natCast_inj])
set_option maxHeartbeats 1000000 in
theorem q_impl_FlagSum_text : QP PP 57 sp_sumX := by
  refine QP_pf (fun i h => ?_) fun i h => ?_
  · obtain ⟨tn, te, s, L⟩ := i; exact ⟨by first | rfl | simp, by first | rfl | simp⟩
  obtain ⟨tn, te, s, L⟩ := i
  replace h : sumInH tn te s L := h
  refine P_code (Quiet.q1 q_impl_decimal (Quiet.q1 q_impl_Graph_text (Quiet.q1 q_impl_Fraction_text Quiet.nil))) hmix k_impl_FlagSum_text rfl ?_ ?_
  · first | rfl | simp
  show wpc 0 PP _ c_impl_FlagSum_text (initSt [.agg [.int .i64 tn, .int .u32 te, .int .i64 s, .sl (tmsA L) false]] .nil) (endP r_impl_FlagSum_text (.str (sumX tn te s L)))
  obtain ⟨⟨hte, hg⟩, hs, hl, hr⟩ := h
  have htn := graphOk_in hg
  have hd := sp_decimal_eq s (by omega)
  have ht := gr_tx htn hte
  have s0 := decB_size s (by omega) (by omega)
  have s1 := grT_size (e := te) (n := tn.toNat) (by omega)
  have z1 : 4 + (decB s).size ≤ 9223372036854775807 := by omega
  have z2 : 4 + (decB s).size + 1 ≤ 9223372036854775807 := by omega
  have z3 : 4 + (decB s).size + 1 + (grT te tn.toNat).size ≤ 9223372036854775807 := by omega
  have z4 : 4 + (decB s).size + 1 + (grT te tn.toNat).size + 1 ≤ 9223372036854775807 := by omega
  have hst := sumX_start (te := te) htn hs
  unfold sumX
  simp -dsimp -implicitDefEqProofs [c_impl_FlagSum_text, r_impl_FlagSum_text, hd, ht, z1, z2, z3, z4]
  refine wpLoop_st (fun (i : Nat) => ⟨tl [(3, .str (tmsW (sumWB ++ decB s ++ sepB ++ grT te tn.toNat ++ lineB) (L.take i))), (17, .sl (tmsA L) false), (18, .int .i64 L.length), (19, .int .i64 i)], ⟨[]⟩⟩) (fun i => i ≤ L.length) (fun i => L.length - i) 0 (by omega) (Sub.keep (by simp) (by simp [hsub]) (by simp [tmsW, sumWB, sepB, lineB])) ?_
  intro i hi
  simp -dsimp -implicitDefEqProofs
  refine brW_of (fun h => ?_) (fun h => ?_) <;> simp only [decide_eq_true_eq, decide_eq_false_iff_not] at h
  · have hx : i < L.length := by omega
    have hwi := wrapNat (i := i) (by omega)
    have hri := hr L[i] (List.getElem_mem hx)
    have hf := decB_fr hri
    have hgx := gr_tx (graphOk_in hri.2.1) hri.2.2
    have hsn := tmsW_snoc (sumWB ++ decB s ++ sepB ++ grT te tn.toNat ++ lineB) L i hx
    have s2 := tmsW_size (L.take i) (fun r hr' => hr r (List.mem_of_mem_take hr')) (sumWB ++ decB s ++ sepB ++ grT te tn.toNat ++ lineB)
    have s3 : (L.take i).length ≤ 64 := by rw [List.length_take]; omega
    have s4 := tmT_size hri
    generalize sumWB ++ decB s ++ sepB ++ grT te tn.toNat ++ lineB = W0 at *
    unfold tmT at hsn s4
    have e1 : sepB.size = 1 := rfl
    have e2 : lineB.size = 1 := rfl
    simp only [ByteArray.size_append] at s4
    generalize tmsW W0 (L.take i) = W at *
    generalize frT L[i].p L[i].q = F at *
    generalize grT L[i].e L[i].n.toNat = G at *
    have y1 : F.size + 1 ≤ 9223372036854775807 := by omega
    have y2 : F.size + 1 + G.size ≤ 9223372036854775807 := by omega
    have y3 : F.size + 1 + G.size + 1 ≤ 9223372036854775807 := by omega
    have y4 : W.size + (F.size + 1 + G.size + 1) ≤ 9223372036854775807 := by omega
    simp -dsimp -implicitDefEqProofs [hx, hwi, hf, hgx, y1, y2, y3, y4]
    exact .mk (i + 1) (by omega) (by omega) (Sub.keep (by simp) (by simp [hsub]) (by simp [hsn, sepB, lineB, hwi]))
  · obtain rfl : i = L.length := by omega
    simp -dsimp -implicitDefEqProofs
theorem sumB_in {tn te s : Int} {L : List Tm} (h : sumB tn te s L = true) (he : 0 ≤ te ∧ te ≤ 4294967295) (hu : u32L L) : sumInH tn te s L := by
  obtain ⟨⟨h1, h2, h3⟩, h4⟩ := sumB_P h
  unfold spanB at h2
  simp only [Bool.and_eq_true, decide_eq_true_eq] at h2
  have hn := graphOk_in h1
  refine ⟨⟨he, h1⟩, by omega, h3, fun x hx => ?_⟩
  obtain ⟨i, hi, rfl⟩ := List.getElem_of_mem hx
  have := (h4 i hi hi).1
  unfold termB at this
  simp only [Bool.and_eq_true] at this
  exact ⟨this.2.2.2.1, (flagOk_in this.1).1, hu _ hx⟩
end Go.Proofs.YtgiakpeneckgfaaGreatDoorAi
end

section
/- The law of ValidPattern. -/
namespace Go.Proofs.YtgiakpeneckgfaaGreatDoorAi
open Go Go.RowKit
set_option linter.unusedVariables false
set_option linter.unusedSimpArgs false

end Go.Proofs.YtgiakpeneckgfaaGreatDoorAi
end

section
/- MADE BY PROGRAM (wip/tools/gen.py): the abstract code of functions. -/
namespace Go.Proofs.YtgiakpeneckgfaaGreatDoorAi
open Go AC AOp Opd
set_option linter.unusedVariables false
set_option maxRecDepth 100000
def c_laws_eqFlag : AC := seq (reg [⟨(some 2), box 3 (t 0), none⟩, ⟨(some 3), box 3 (t 1), none⟩, ⟨(some 4), mv (c (.bool false)), none⟩]) (seq (seq (reg [⟨(some 5), fad (t 2) 0, none⟩, ⟨(some 6), ld (t 5) 1 false, none⟩, ⟨(some 7), fad (t 3) 0, none⟩, ⟨(some 8), ld (t 7) 1 false, none⟩, ⟨(some 9), bin .neq (t 6) (t 8), none⟩]) (cond (t 9) (seq (reg [⟨(some 4), mv (c (.bool false)), none⟩]) (ret)) (skip))) (seq (seq (reg [⟨(some 10), fad (t 2) 1, none⟩, ⟨(some 11), ld (t 10) 2 true, none⟩, ⟨(some 12), fad (t 3) 1, none⟩, ⟨(some 13), ld (t 12) 2 true, none⟩, ⟨(some 14), callq (c (.fn 59 [])) [t 11, t 13], none⟩, ⟨(some 15), un .not (t 14), none⟩]) (cond (t 15) (seq (reg [⟨(some 4), mv (c (.bool false)), none⟩]) (ret)) (skip))) (seq (reg [⟨(some 4), mv (c (.bool true)), none⟩]) (ret))))
def r_laws_eqFlag : List ARes := [.tmp 4]
theorem k_laws_eqFlag : acLin Go.Proofs.Tryz.prog 116 2 (inQ [59] []) [] = some (c_laws_eqFlag, r_laws_eqFlag) := by kernel_rfl
end Go.Proofs.YtgiakpeneckgfaaGreatDoorAi
end

section
/- Contracts: equality of flags. -/
namespace Go.Proofs.YtgiakpeneckgfaaGreatDoorAi
open Go Go.RowKit
set_option linter.unusedVariables false
set_option linter.unusedSimpArgs false
set_option maxRecDepth 20000

noncomputable def sp_eqFlag : List AV → Option (AV) := pf (ι := (Int) × (Int) × (Int) × (Int) × (Int) × (Int)) (α := AV) (fun ⟨k, n, e, k', n', e'⟩ => True) (fun ⟨k, n, e, k', n', e'⟩ => [.agg [.int .i64 k, .int .i64 n, .int .u32 e], .agg [.int .i64 k', .int .i64 n', .int .u32 e']]) (fun ⟨k, n, e, k', n', e'⟩ => .bool (k == k' && (n == n' && e == e')))
theorem sp_eqFlag_eq (k n e k' n' e' : Int) : sp_eqFlag [.agg [.int .i64 k, .int .i64 n, .int .u32 e], .agg [.int .i64 k', .int .i64 n', .int .u32 e']] = some (.bool (k == k' && (n == n' && e == e'))) := by
  unfold sp_eqFlag
  exact pf_eq (ι := (Int) × (Int) × (Int) × (Int) × (Int) × (Int)) (α := AV) (k, n, e, k', n', e') trivial (by rintro ⟨k', n', e', k'', n'', e''⟩ _ e; simp_all [Int.natCast_inj])
attribute [simp] sp_eqFlag_eq
theorem q_laws_eqFlag : QP PP 116 sp_eqFlag := by
  refine QP_pf (fun i h => ?_) fun i h => ?_
  · obtain ⟨k, n, e, k', n', e'⟩ := i; exact ⟨by first | rfl | simp, by first | rfl | simp⟩
  obtain ⟨k, n, e, k', n', e'⟩ := i
  replace h : True := h
  refine P_code (Quiet.q1 q_laws_eqGraph Quiet.nil) hmix k_laws_eqFlag rfl ?_ ?_
  · first | rfl | simp
  show wpc 0 PP _ c_laws_eqFlag (initSt [.agg [.int .i64 k, .int .i64 n, .int .u32 e], .agg [.int .i64 k', .int .i64 n', .int .u32 e']] .nil) (endP r_laws_eqFlag (.bool (k == k' && (n == n' && e == e'))))
  cases h1 : (k == k') <;> cases h2 : (n == n') <;> cases h3 : (e == e')
  all_goals
    have h1' : (k != k') = !(k == k') := rfl
    rw [h1] at h1'
    simp -dsimp -implicitDefEqProofs [c_laws_eqFlag, r_laws_eqFlag, h1, h1', h2, h3]
end Go.Proofs.YtgiakpeneckgfaaGreatDoorAi
end

section
/- Contracts and law: SumText. -/
namespace Go.Proofs.YtgiakpeneckgfaaGreatDoorAi
open Go Go.RowKit
set_option linter.unusedVariables false
set_option linter.unusedSimpArgs false
set_option maxRecDepth 20000

noncomputable def sp_l05Text : List AV → List AV → Option (AV × List AV) := pm (pf (ι := (Int) × (Int) × (Int) × (List Tm)) (α := AV × List AV) (fun ⟨tn, te, s, L⟩ => sumInH tn te s L) (fun i => .agg ((fun ⟨tn, te, s, L⟩ => [.int .i64 tn, .int .u32 te, .int .i64 s, .sl (tmsA L) false] : (Int) × (Int) × (Int) × (List Tm) → List AV) i) :: (fun ⟨tn, te, s, L⟩ => [] : (Int) × (Int) × (Int) × (List Tm) → List AV) i) (fun ⟨tn, te, s, L⟩ => (.str (sumX tn te s L), [.int .i64 tn, .int .u32 te, .int .i64 s, .sl (tmsA L) false])))
theorem sp_l05Text_eq (tn te s : Int) (L : List Tm) (h : sumInH tn te s L) : sp_l05Text [.int .i64 tn, .int .u32 te, .int .i64 s, .sl (tmsA L) false] [] = some (.str (sumX tn te s L), [.int .i64 tn, .int .u32 te, .int .i64 s, .sl (tmsA L) false]) := by
  unfold sp_l05Text pm
  exact pf_eq (ι := (Int) × (Int) × (Int) × (List Tm)) (α := AV × List AV) (tn, te, s, L) h (by rintro ⟨tn', te', s', L'⟩ _ e; simp_all [Int.natCast_inj])
set_option maxHeartbeats 1000000 in
theorem m_spec_l05Text : QM PP 41 sp_l05Text := by
  refine QM_pf (fun i h => ?_) fun i h => ?_
  · obtain ⟨tn, te, s, L⟩ := i; exact ⟨⟨by first | rfl | simp, by first | rfl | simp⟩, by first | rfl | simp, by first | rfl | simp⟩
  obtain ⟨tn, te, s, L⟩ := i
  replace h : sumInH tn te s L := h
  refine H_code (Quiet.q1 q_spec_Decimal (Quiet.q1 q_spec_GraphText (Quiet.q1 q_spec_FractionText Quiet.nil))) hmix k_spec_l05Text rfl (fun b => b) (Nat.le_refl _) (fun _ _ => rfl) rfl (by first | rfl | simp) ?_
  show wpc 1 PP _ c_spec_l05Text (initSt [.ptr 0 0] ⟨[some [.int .i64 tn, .int .u32 te, .int .i64 s, .sl (tmsA L) false]]⟩) (endH (fun b => b) r_spec_l05Text (.str (sumX tn te s L)) [some [.int .i64 tn, .int .u32 te, .int .i64 s, .sl (tmsA L) false]])
  obtain ⟨⟨hte, hg⟩, hs, hl, hr⟩ := h
  have htn := graphOk_in hg
  have hd := sp_decS_eq s (by omega)
  have ht := sp_graphText_eq tn te hte
  have hgt : graphT tn te = grT te tn.toNat := by unfold graphT; rw [if_pos hg]
  rw [hgt] at ht
  have s0 := decB_size s (by omega) (by omega)
  have s1 := grT_size (e := te) (n := tn.toNat) (by omega)
  have z1 : 4 + (decB s).size ≤ 9223372036854775807 := by omega
  have z2 : 4 + (decB s).size + 1 ≤ 9223372036854775807 := by omega
  have z3 : 4 + (decB s).size + 1 + (grT te tn.toNat).size ≤ 9223372036854775807 := by omega
  have z4 : 4 + (decB s).size + 1 + (grT te tn.toNat).size + 1 ≤ 9223372036854775807 := by omega
  have hst := sumX_start (te := te) htn hs
  unfold sumX
  simp -dsimp -implicitDefEqProofs [c_spec_l05Text, r_spec_l05Text, hd, ht, z1, z2, z3, z4]
  refine wpLoop_st (fun (i : Nat) => ⟨tl [(0, .ptr 0 0), (3, .str (tmsW (sumWB ++ decB s ++ sepB ++ grT te tn.toNat ++ lineB) (L.take i))), (4, .int .i64 i)], ⟨[some [.int .i64 tn, .int .u32 te, .int .i64 s, .sl (tmsA L) false]]⟩⟩) (fun i => i ≤ L.length) (fun i => L.length - i) 0 (by omega) (Sub.keep (by simp) (by simp [hsub]) (by simp [tmsW, sumWB, sepB, lineB])) ?_
  intro i hi
  simp -dsimp -implicitDefEqProofs
  refine brW_of (fun h => ?_) (fun h => ?_) <;> simp only [decide_eq_true_eq, decide_eq_false_iff_not] at h
  · have hx : i < L.length := by omega
    have hwi := wrapNat (i := i) (by omega)
    have hri := hr L[i] (List.getElem_mem hx)
    have hf := sp_fracText_eq L[i].p L[i].q
    have hft : fracT L[i].p L[i].q = frT L[i].p L[i].q := by unfold fracT; rw [if_pos hri.1]
    rw [hft] at hf
    have hgx := sp_graphText_eq L[i].n L[i].e hri.2.2
    have hgx2 : graphT L[i].n L[i].e = grT L[i].e L[i].n.toNat := by unfold graphT; rw [if_pos hri.2.1]
    rw [hgx2] at hgx
    have hsn := tmsW_snoc (sumWB ++ decB s ++ sepB ++ grT te tn.toNat ++ lineB) L i hx
    have s2 := tmsW_size (L.take i) (fun r hr' => hr r (List.mem_of_mem_take hr')) (sumWB ++ decB s ++ sepB ++ grT te tn.toNat ++ lineB)
    have s3 : (L.take i).length ≤ 64 := by rw [List.length_take]; omega
    have s4 := tmT_size hri
    generalize sumWB ++ decB s ++ sepB ++ grT te tn.toNat ++ lineB = W0 at *
    unfold tmT at hsn s4
    have e1 : sepB.size = 1 := rfl
    have e2 : lineB.size = 1 := rfl
    simp only [ByteArray.size_append] at s4
    generalize tmsW W0 (L.take i) = W at *
    generalize frT L[i].p L[i].q = F at *
    generalize grT L[i].e L[i].n.toNat = G at *
    have y1 : F.size + 1 ≤ 9223372036854775807 := by omega
    have y2 : F.size + 1 + G.size ≤ 9223372036854775807 := by omega
    have y3 : F.size + 1 + G.size + 1 ≤ 9223372036854775807 := by omega
    have y4 : W.size + (F.size + 1 + G.size + 1) ≤ 9223372036854775807 := by omega
    simp -dsimp -implicitDefEqProofs [hx, hwi, hf, hft, hgx, y1, y2, y3, y4]
    exact .mk (i + 1) (by omega) (by omega) (Sub.keep (by simp) (by simp [hsub]) (by simp [hsn, sepB, lineB, hwi]))
  · obtain rfl : i = L.length := by omega
    simp -dsimp -implicitDefEqProofs [hsub]
/-! ### the law's own functions -/
noncomputable def sp_toTerm : List AV → Option (AV) := pf (ι := (Int) × (Int) × (Int) × (Int) × (Int)) (α := AV) (fun ⟨k, n, e, p, q⟩ => True) (fun ⟨k, n, e, p, q⟩ => [.agg [.int .i64 k, .int .i64 n, .int .u32 e, .int .i64 p, .int .i64 q]]) (fun ⟨k, n, e, p, q⟩ => .agg [.int .i64 k, .int .i64 n, .int .u32 e, .int .i64 p, .int .i64 q])
theorem sp_toTerm_eq (k n e p q : Int) : sp_toTerm [.agg [.int .i64 k, .int .i64 n, .int .u32 e, .int .i64 p, .int .i64 q]] = some (.agg [.int .i64 k, .int .i64 n, .int .u32 e, .int .i64 p, .int .i64 q]) := by
  unfold sp_toTerm
  exact pf_eq (ι := (Int) × (Int) × (Int) × (Int) × (Int)) (α := AV) (k, n, e, p, q) trivial (by rintro ⟨k', n', e', p', q'⟩ _ e; simp_all [Int.natCast_inj])
attribute [simp] sp_toTerm_eq
theorem tmsA_cells (l : List Tm) : ∀ x ∈ tmsA l, x.cells.length = 5 ∧ ltL 0 x.cells = true := by
  intro x hx
  obtain ⟨p, _, rfl⟩ := List.mem_map.1 hx
  exact ⟨rfl, rfl⟩
noncomputable def sp_eqTerm : List AV → Option (AV) := pf (ι := (Int) × (Int) × (Int) × (Int) × (Int) × (Int) × (Int) × (Int) × (Int) × (Int)) (α := AV) (fun ⟨k, n, e, p, q, k', n', e', p', q'⟩ => True) (fun ⟨k, n, e, p, q, k', n', e', p', q'⟩ => [.agg [.int .i64 k, .int .i64 n, .int .u32 e, .int .i64 p, .int .i64 q], .agg [.int .i64 k', .int .i64 n', .int .u32 e', .int .i64 p', .int .i64 q']]) (fun ⟨k, n, e, p, q, k', n', e', p', q'⟩ => .bool ((k == k' && (n == n' && e == e')) && (p == p' && q == q')))
theorem sp_eqTerm_eq (k n e p q k' n' e' p' q' : Int) : sp_eqTerm [.agg [.int .i64 k, .int .i64 n, .int .u32 e, .int .i64 p, .int .i64 q], .agg [.int .i64 k', .int .i64 n', .int .u32 e', .int .i64 p', .int .i64 q']] = some (.bool ((k == k' && (n == n' && e == e')) && (p == p' && q == q'))) := by
  unfold sp_eqTerm
  exact pf_eq (ι := (Int) × (Int) × (Int) × (Int) × (Int) × (Int) × (Int) × (Int) × (Int) × (Int)) (α := AV) (k, n, e, p, q, k', n', e', p', q') trivial (by rintro ⟨k', n', e', p', q', k'', n'', e'', p'', q''⟩ _ e; simp_all [Int.natCast_inj])
attribute [simp] sp_eqTerm_eq
theorem q_laws_eqTerm : QP PP 92 sp_eqTerm := by
  refine QP_pf (fun i h => ?_) fun i h => ?_
  · obtain ⟨k, n, e, p, q, k', n', e', p', q'⟩ := i; exact ⟨by first | rfl | simp, by first | rfl | simp⟩
  obtain ⟨k, n, e, p, q, k', n', e', p', q'⟩ := i
  replace h : True := h
  refine P_code (Quiet.q1 q_laws_eqFlag (Quiet.q1 q_laws_eqFraction Quiet.nil)) hmix k_laws_eqTerm rfl ?_ ?_
  · first | rfl | simp
  show wpc 0 PP _ c_laws_eqTerm (initSt [.agg [.int .i64 k, .int .i64 n, .int .u32 e, .int .i64 p, .int .i64 q], .agg [.int .i64 k', .int .i64 n', .int .u32 e', .int .i64 p', .int .i64 q']] .nil) (endP r_laws_eqTerm (.bool ((k == k' && (n == n' && e == e')) && (p == p' && q == q'))))
  cases h1 : (k == k' && (n == n' && e == e')) <;> cases h2 : (p == p' && q == q') <;> simp -dsimp -implicitDefEqProofs [c_laws_eqTerm, r_laws_eqTerm, sp_eqFlag_eq, sp_eqFraction_eq, h1, h2]
theorem tm_eqb (x y : Tm) : ((x.k == y.k && (x.n == y.n && x.e == y.e)) && (x.p == y.p && x.q == y.q)) = decide (x = y) := by
  by_cases h : x = y
  · subst h; simp
  · rw [decide_eq_false h, Bool.eq_false_iff]
    intro hh
    simp at hh
    apply h
    cases x; cases y
    simp_all
noncomputable def sp_eqTermS : List AV → Option (AV) := pf (ι := (List Tm) × (List Tm)) (α := AV) (fun ⟨l, k⟩ => l.length ≤ maxLen) (fun ⟨l, k⟩ => [.sl (tmsA l) false, .sl (tmsA k) false]) (fun ⟨l, k⟩ => .bool (decide (l = k)))
theorem sp_eqTermS_eq (l k : List Tm) (h : l.length ≤ maxLen) : sp_eqTermS [.sl (tmsA l) false, .sl (tmsA k) false] = some (.bool (decide (l = k))) := by
  unfold sp_eqTermS
  exact pf_eq (ι := (List Tm) × (List Tm)) (α := AV) (l, k) h (by rintro ⟨l', k'⟩ _ e; simp_all [Int.natCast_inj])
theorem q_laws_eqTermS : QP PP 60 sp_eqTermS := by
  refine QP_pf (fun i h => ?_) fun i h => ?_
  · obtain ⟨l, k⟩ := i; exact ⟨by first | rfl | simp, by first | rfl | simp⟩
  obtain ⟨l, k⟩ := i
  replace h : l.length ≤ maxLen := h
  refine P_code (Quiet.q1 q_laws_eqTerm Quiet.nil) hmix k_laws_eqTermS rfl ?_ ?_
  · first | rfl | simp
  show wpc 0 PP _ c_laws_eqTermS (initSt [.sl (tmsA l) false, .sl (tmsA k) false] .nil) (endP r_laws_eqTermS (.bool (decide (l = k))))
  simp only [maxLen] at h
  by_cases hlen : l.length = k.length
  · simp -dsimp -implicitDefEqProofs [c_laws_eqTermS, r_laws_eqTermS, hlen]
    refine wpLoop_st (fun (i : Nat) => ⟨tl [(0, .sl (tmsA l) false), (1, .sl (tmsA k) false), (5, .int .i64 i)], ⟨[]⟩⟩) (fun i => i ≤ l.length ∧ l.take i = k.take i) (fun i => l.length - i) 0 ⟨Nat.zero_le _, rfl⟩ (Sub.keep (by simp) (by simp [hsub]) (by simp)) ?_
    rintro i ⟨h1, h2⟩
    simp -dsimp -implicitDefEqProofs
    refine brW_of (fun h => ?_) (fun h => ?_) <;> simp only [decide_eq_true_eq, decide_eq_false_iff_not] at h
    · have hi : i < l.length := by omega
      have hj : i < k.length := by omega
      have hw := wrapNat (i := i) (by omega)
      have hq := sp_eqTerm_eq l[i].k l[i].n l[i].e l[i].p l[i].q k[i].k k[i].n k[i].e k[i].p k[i].q
      rw [tm_eqb] at hq
      by_cases he : l[i] = k[i]
      · rw [decide_eq_true he] at hq
        simp -dsimp -implicitDefEqProofs [hi, hj, hw, hq]
        exact .mk (i + 1) ⟨by omega, by rw [take_snoc l i hi, take_snoc k i hj, h2, he]⟩ (by omega) (Sub.keep (by simp) (by simp [hsub]) (by simp [hw]))
      · have hne : ¬ l = k := fun e => he (by subst e; rfl)
        rw [decide_eq_false he] at hq
        simp -dsimp -implicitDefEqProofs [hi, hj, hw, hne, hq]
    · have hi : i = l.length := by omega
      have he : l = k := by
        rw [hi, List.take_length, hlen, List.take_length] at h2
        exact h2
      simp -dsimp -implicitDefEqProofs [he]
  · have hne : ¬ l = k := fun e => hlen (by rw [e])
    have hln : ((l.length : Int) != (k.length : Int)) = true := by simp; omega
    simp -dsimp -implicitDefEqProofs [c_laws_eqTermS, r_laws_eqTermS, hln, hne]
noncomputable def sp_eqFlagSum : List AV → Option (AV) := pf (ι := (Int) × (Int) × (Int) × (List Tm) × (Int) × (Int) × (Int) × (List Tm)) (α := AV) (fun ⟨n, e, l, ps, n', e', l', ps'⟩ => ps.length ≤ maxLen) (fun ⟨n, e, l, ps, n', e', l', ps'⟩ => [.agg [.int .i64 n, .int .u32 e, .int .i64 l, .sl (tmsA ps) false], .agg [.int .i64 n', .int .u32 e', .int .i64 l', .sl (tmsA ps') false]]) (fun ⟨n, e, l, ps, n', e', l', ps'⟩ => .bool ((n == n' && e == e') && (l == l') && decide (ps = ps')))
theorem sp_eqFlagSum_eq (n e l : Int) (ps : List Tm) (n' e' l' : Int) (ps' : List Tm) (h : ps.length ≤ maxLen) : sp_eqFlagSum [.agg [.int .i64 n, .int .u32 e, .int .i64 l, .sl (tmsA ps) false], .agg [.int .i64 n', .int .u32 e', .int .i64 l', .sl (tmsA ps') false]] = some (.bool ((n == n' && e == e') && (l == l') && decide (ps = ps'))) := by
  unfold sp_eqFlagSum
  exact pf_eq (ι := (Int) × (Int) × (Int) × (List Tm) × (Int) × (Int) × (Int) × (List Tm)) (α := AV) (n, e, l, ps, n', e', l', ps') h (by rintro ⟨n', e', l', ps', n'', e'', l'', ps''⟩ _ e; simp_all [Int.natCast_inj])
theorem q_laws_eqFlagSum : QP PP 26 sp_eqFlagSum := by
  refine QP_pf (fun i h => ?_) fun i h => ?_
  · obtain ⟨n, e, l, ps, n', e', l', ps'⟩ := i; exact ⟨by first | rfl | simp, by first | rfl | simp⟩
  obtain ⟨n, e, l, ps, n', e', l', ps'⟩ := i
  replace h : ps.length ≤ maxLen := h
  refine P_code (Quiet.q1 q_laws_eqGraph (Quiet.q1 q_laws_eqTermS Quiet.nil)) hmix k_laws_eqFlagSum rfl ?_ ?_
  · first | rfl | simp
  show wpc 0 PP _ c_laws_eqFlagSum (initSt [.agg [.int .i64 n, .int .u32 e, .int .i64 l, .sl (tmsA ps) false], .agg [.int .i64 n', .int .u32 e', .int .i64 l', .sl (tmsA ps') false]] .nil) (endP r_laws_eqFlagSum (.bool ((n == n' && e == e') && (l == l') && decide (ps = ps'))))
  by_cases h4 : ps = ps'
  · subst h4
    simp -dsimp -implicitDefEqProofs [c_laws_eqFlagSum, r_laws_eqFlagSum, sp_eqTermS_eq ps ps h]
    cases h1 : n == n' <;> cases h2 : e == e' <;> cases h3 : l == l' <;> simp -dsimp -implicitDefEqProofs [h1, h2, h3, bne, sp_eqTermS_eq ps ps h]
  · simp -dsimp -implicitDefEqProofs [c_laws_eqFlagSum, r_laws_eqFlagSum, sp_eqTermS_eq ps ps' h]
    cases h1 : n == n' <;> cases h2 : e == e' <;> cases h3 : l == l' <;> simp -dsimp -implicitDefEqProofs [h1, h2, h3, h4, bne, sp_eqTermS_eq ps ps' h]
end Go.Proofs.YtgiakpeneckgfaaGreatDoorAi
end

section
/- Plain law: numerals are parsed. Contracts: strconv.ParseInt, number. -/
namespace Go.Proofs.YtgiakpeneckgfaaGreatDoorAi
open Go Go.RowKit
set_option linter.unusedVariables false
set_option linter.unusedSimpArgs false
set_option maxRecDepth 20000

/-! ### numerals -/
theorem dig_toNat {d : Nat} (h : d < 10) : (UInt8.ofNat (48 + d)).toNat = 48 + d := by
  rw [UInt8.toNat_ofNat']; omega
theorem decD_dig (u : Nat) : ∀ c ∈ Go.Lib.decDigits u, 48 ≤ c.toNat ∧ c.toNat ≤ 57 := by
  induction u using Nat.strongRecOn with
  | ind u ih =>
    intro c hc
    rw [Go.Lib.decDigits] at hc
    split at hc
    · obtain rfl := List.mem_singleton.1 hc
      rw [dig_toNat (by omega)]; omega
    · rcases List.mem_append.1 hc with hc | hc
      · exact ih (u / 10) (by omega) c hc
      · obtain rfl := List.mem_singleton.1 hc
        rw [dig_toNat (by omega)]; omega
theorem decD_ne (u : Nat) : Go.Lib.decDigits u ≠ [] := by
  intro h
  have := congrArg List.length h
  rw [Go.Lib.decDigits_length] at this
  have := Go.Lib.nDigits_pos u
  simp at *
  omega
theorem pU_snoc (M : Nat) (c : UInt8) : ∀ (l : List UInt8) (acc v : Nat), Go.Lib.parseUintM M acc l = .ok v → Go.Lib.parseUintM M acc (l ++ [c]) = Go.Lib.parseUintM M v [c]
  | [], acc, v, h => by
    rw [Go.Lib.parseUintM] at h
    injection h with h
    rw [h]; rfl
  | d :: l, acc, v, h => by
    rw [List.cons_append, Go.Lib.parseUintM]
    rw [Go.Lib.parseUintM] at h
    split at h
    · rename_i h1
      rw [if_pos h1]
      split at h
      · cases h
      · rename_i h2
        rw [if_neg h2]
        split at h
        · cases h
        · rename_i h3
          rw [if_neg h3]
          exact pU_snoc M c l _ v h
    · cases h
theorem pU_dec (u : Nat) (hu : u ≤ 9223372036854775808) : Go.Lib.parseUintM (2 ^ 64 - 1) 0 (Go.Lib.decDigits u) = .ok u := by
  induction u using Nat.strongRecOn with
  | ind u ih =>
    rw [Go.Lib.decDigits]
    split
    · rename_i h
      rw [Go.Lib.parseUintM, dig_toNat h, if_pos (by omega), if_neg (by omega), if_neg (by omega), Go.Lib.parseUintM]
      congr 1; omega
    · rw [pU_snoc _ _ _ _ _ (ih (u / 10) (by omega) (by omega)), Go.Lib.parseUintM, dig_toNat (by omega), if_pos (by omega), if_neg (by omega), if_neg (by omega), Go.Lib.parseUintM]
      congr 1; omega
theorem pUB_dec (u : Nat) (hu : u ≤ 9223372036854775808) : Go.Lib.parseUintB 64 (Go.Lib.decDigits u) = .ok u := by
  unfold Go.Lib.parseUintB
  rw [if_neg (decD_ne u), pU_dec u hu]
theorem pI_dec (n : Int) (h0 : -9223372036854775808 ≤ n) (h1 : n ≤ 9223372036854775807) : Go.Lib.parseIntB 64 (decB n).data.toList = .ok n := by
  have e : (decB n).data.toList = Go.Lib.itoa n := by simp [decB]
  rw [e]
  unfold Go.Lib.itoa
  by_cases hn : n < 0
  · rw [if_pos hn, Go.Lib.parseIntB]
    have h45 : (45 : UInt8).toNat = 45 := rfl
    simp only [h45]
    rw [if_pos (by simp), pUB_dec _ (by omega)]
    simp only
    rw [if_neg (by simp), if_neg (by omega)]
    simp; omega
  · rw [if_neg hn]
    have hp := pUB_dec n.toNat (by omega)
    have hd := decD_dig n.toNat
    cases hl : Go.Lib.decDigits n.toNat with
    | nil => exact absurd hl (decD_ne _)
    | cons c r =>
      rw [hl] at hp hd
      have hc := hd c (List.mem_cons_self ..)
      rw [Go.Lib.parseIntB]
      rw [if_neg (by omega), hp]
      simp only
      rw [if_neg (by omega), if_neg (by omega), if_neg (by omega)]
      congr 1; omega
theorem pI_in {l : List UInt8} {v : Int} (h : Go.Lib.parseIntB 64 l = .ok v) : -9223372036854775808 ≤ v ∧ v ≤ 9223372036854775807 := by
  unfold Go.Lib.parseIntB at h
  split at h
  · cases h
  · rename_i c r
    simp only at h
    split at h
    · cases h
    · cases h
    · rename_i u hu
      split at h
      · cases h
      · rename_i h1
        split at h
        · cases h
        · rename_i h2
          injection h with h
          subst h
          split <;> omega

/-! ### contracts -/
def numV (s : ByteArray) : Int := match Go.Lib.parseIntB 64 s.data.toList with
  | .ok v => v
  | .range => Go.Lib.intSat 64 s.data.toList
  | _ => 0
def numE (s : ByteArray) : Bool := match Go.Lib.parseIntB 64 s.data.toList with
  | .ok _ => true
  | _ => false
def parErr (s : ByteArray) : AV := if numE s = true then .nili else .iface
theorem parErr_lt (s : ByteArray) : (parErr s).lt 0 = true := by unfold parErr; split <;> rfl
noncomputable def sp_parseI : List AV → Option (AV) := pf (ι := (ByteArray)) (α := AV) (fun s => s.size ≤ 1048576) (fun s => [.str s, .int .i64 10, .int .i64 64]) (fun s => .tup [.int .i64 (numV s), parErr s])
theorem sp_parseI_eq (s : ByteArray) (h : s.size ≤ 1048576) : sp_parseI [.str s, .int .i64 10, .int .i64 64] = some (.tup [.int .i64 (numV s), parErr s]) := by
  unfold sp_parseI
  exact pf_eq (ι := (ByteArray)) (α := AV) s h (by rintro s' _ e; simp_all [Int.natCast_inj])
theorem var_cell0 {P : Program} {w : World} {name : String} {g : Nat} {v : Value} (hg : P.globalNamed name = some g) (h : w.var? P name = some #[v]) : w.cell? ⟨g, 0, none⟩ = some v := by
  have := World.var?_cell hg h 0
  simpa using this
theorem q_strconv_ParseInt : QP PP 75 sp_parseI := by
  refine QP_pf (fun s h => ?_) fun s h => ?_
  · exact ⟨by first | rfl | simp, by simp [parErr_lt]⟩
  replace h : s.size ≤ 1048576 := h
  refine T.lib ⟨_, Tryz.func75, by kernel_rfl, by kernel_rfl⟩ (fun σ w vs hr hG => ?_) .nil
  obtain ⟨v1, us, rfl, h1, h2⟩ := hr.head
  obtain ⟨v2, us2, rfl, h3, h4⟩ := h2.head
  obtain ⟨v3, us3, rfl, h5, h6⟩ := h4.head
  obtain rfl : us3 = [] := List.eq_nil_of_length_eq_zero h6.1.symm
  cases h1; cases h3; cases h5
  have rep2 : ∀ {x y : AV} {u v : Value}, Rep σ x u → Rep σ y v → Rep σ (.tup [x, y]) (.tuple #[u, v]) := by
    intro x y u v hu hv
    exact .tup [x, y] [u, v] rfl (fun i c z hc hz => by
      match i, hc, hz with
      | 0, hc, hz => cases hc; cases hz; exact hu
      | 1, hc, hz => cases hc; cases hz; exact hv
      | n + 2, hc, hz => cases hc)
  cases hp : Go.Lib.parseIntB 64 s.data.toList with
  | ok v =>
    have e1 : numV s = v := by unfold numV; rw [hp]
    have e2 : parErr s = .nili := by unfold parErr numE; rw [hp]; rfl
    refine (Tryz.strconv_ParseInt_10_at64_ok s (by omega) v hp w).mono ?_
    rintro e w' ⟨rfl, hw⟩
    refine ⟨_, rfl, ?_, ?_⟩
    · rcases hw with rfl | ⟨t, rfl⟩
      · exact Below.refl _ _
      · exact Go.Lib.bytesWorld_below _ _ _
    · rw [e1, e2]; exact rep2 (.int _ _) .nili
  | range =>
    have e1 : numV s = Go.Lib.intSat 64 s.data.toList := by unfold numV; rw [hp]
    have e2 : parErr s = .iface := by unfold parErr numE; rw [hp]; rfl
    obtain ⟨t, v, hv⟩ := hG.rng rfl (by kernel_rfl)
    refine (Go.Proofs.Any.strconv_ParseInt_10_at64_range Tryz.laysC174 s (by omega) hp (.iface t v) w (var_cell0 (by kernel_rfl) hv) (.inr ⟨t, v, rfl⟩)).mono ?_
    rintro e w' ⟨N, rfl, _, _, hb⟩
    refine ⟨_, rfl, hb, ?_⟩
    rw [e1, e2]; exact rep2 (.int _ _) (.iface _ _)
  | _ =>
    have e1 : numV s = 0 := by unfold numV; rw [hp]
    have e2 : parErr s = .iface := by unfold parErr numE; rw [hp]; rfl
    obtain ⟨t, v, hv⟩ := hG.syn rfl (by kernel_rfl)
    refine (Go.Proofs.Any.strconv_ParseInt_10_at64_syntax Tryz.laysC174 s (by omega) hp (.iface t v) w (var_cell0 (by kernel_rfl) hv) (.inr ⟨t, v, rfl⟩)).mono ?_
    rintro e w' ⟨N, rfl, _, _, hb⟩
    refine ⟨_, rfl, hb, ?_⟩
    rw [e1, e2]; exact rep2 (.int _ _) (.iface _ _)
end Go.Proofs.YtgiakpeneckgfaaGreatDoorAi
end

section
/- MADE BY PROGRAM (wip/tools/gen.py): the abstract code of functions. -/
namespace Go.Proofs.YtgiakpeneckgfaaGreatDoorAi
open Go AC AOp Opd
set_option linter.unusedVariables false
set_option maxRecDepth 100000
def c_impl_number : AC := seq (reg [⟨(some 2), mv (c (.int .i64 0)), none⟩, ⟨(some 3), mv (c (.bool false)), none⟩]) (seq (reg [⟨(some 7), mv (t 0), none⟩, ⟨(some 8), callq (c (.fn 75 [])) [t 7, c (.int .i64 10), c (.int .i64 64)], none⟩, ⟨(some 6), mv (t 8), none⟩, ⟨(some 9), ext (t 6) 0, none⟩, ⟨(some 10), ext (t 6) 1, none⟩, ⟨(some 4), mv (t 9), none⟩, ⟨(some 5), mv (t 10), none⟩]) (seq (reg [⟨(some 11), mv (t 4), none⟩, ⟨(some 12), mv (t 5), none⟩, ⟨(some 13), eqi false (t 12), none⟩, ⟨(some 14), mv (t 13), none⟩, ⟨(some 15), mv (t 4), some (14, true)⟩, ⟨(some 16), callq (c (.fn 76 [])) [t 15], some (14, true)⟩, ⟨(some 17), mv (t 0), some (14, true)⟩, ⟨(some 18), bin .eql (t 16) (t 17), some (14, true)⟩, ⟨(some 19), pick (t 14) (t 18) (c (.bool false)), none⟩, ⟨(some 2), mv (t 11), none⟩, ⟨(some 3), mv (t 19), none⟩]) (ret)))
def r_impl_number : List ARes := [.tmp 2, .tmp 3]
theorem k_impl_number : acLin Go.Proofs.Tryz.prog 44 1 (inQ [75, 76] []) [] = some (c_impl_number, r_impl_number) := by kernel_rfl
def c_impl_ReadFraction : AC := seq (reg [⟨(some 2), alloc [.int .i64 0, .int .i64 0], none⟩, ⟨(some 3), mv (c (.int .i64 0)), none⟩]) (seq (reg [⟨(some 13), mv (t 0), none⟩, ⟨(some 14), callq (c (.fn 17 [])) [t 13, c (.str ⟨#[47]⟩)], none⟩, ⟨(some 12), mv (t 14), none⟩, ⟨(some 15), ext (t 12) 0, none⟩, ⟨(some 16), ext (t 12) 1, none⟩, ⟨(some 17), ext (t 12) 2, none⟩, ⟨(some 4), mv (t 15), none⟩, ⟨(some 5), mv (t 16), none⟩, ⟨(some 6), mv (t 17), none⟩]) (seq (seq (reg [⟨(some 18), mv (t 6), none⟩, ⟨(some 19), un .not (t 18), none⟩]) (cond (t 19) (reg [⟨(some 5), mv (c (.str ⟨#[49]⟩)), none⟩]) (skip))) (seq (reg [⟨(some 21), mv (t 4), none⟩, ⟨(some 22), callq (c (.fn 44 [])) [t 21], none⟩, ⟨(some 20), mv (t 22), none⟩, ⟨(some 23), ext (t 20) 0, none⟩, ⟨(some 24), ext (t 20) 1, none⟩, ⟨(some 7), mv (t 23), none⟩, ⟨(some 8), mv (t 24), none⟩]) (seq (reg [⟨(some 26), mv (t 5), none⟩, ⟨(some 27), callq (c (.fn 44 [])) [t 26], none⟩, ⟨(some 25), mv (t 27), none⟩, ⟨(some 28), ext (t 25) 0, none⟩, ⟨(some 29), ext (t 25) 1, none⟩, ⟨(some 9), mv (t 28), none⟩, ⟨(some 10), mv (t 29), none⟩]) (seq (reg [⟨(some 30), mv (t 7), none⟩, ⟨(some 31), mv (t 9), none⟩, ⟨(some 32), bld [.int .i64 0, .int .i64 0] [(0, 1, t 30), (1, 1, t 31)], none⟩, ⟨(some 11), alloc [.int .i64 0, .int .i64 0], none⟩, ⟨none, st (t 11) 2 (t 32), none⟩]) (seq (seq (reg [⟨(some 33), mv (t 8), none⟩, ⟨(some 34), un .not (t 33), none⟩, ⟨(some 35), mv (t 34), none⟩, ⟨(some 36), mv (t 10), some (35, false)⟩, ⟨(some 37), un .not (t 36), some (35, false)⟩, ⟨(some 38), pick (t 35) (c (.bool true)) (t 37), none⟩, ⟨(some 39), mv (t 38), none⟩, ⟨(some 40), ld (t 11) 2 true, some (39, false)⟩, ⟨(some 41), callq (c (.fn 45 [])) [t 40], some (39, false)⟩, ⟨(some 42), un .not (t 41), some (39, false)⟩, ⟨(some 43), pick (t 39) (c (.bool true)) (t 42), none⟩, ⟨(some 44), mv (t 43), none⟩, ⟨(some 45), ld (t 11) 2 true, some (44, false)⟩, ⟨(some 46), callq (c (.fn 46 [])) [t 45], some (44, false)⟩, ⟨(some 47), mv (t 0), some (44, false)⟩, ⟨(some 48), bin .neq (t 46) (t 47), some (44, false)⟩, ⟨(some 49), pick (t 44) (c (.bool true)) (t 48), none⟩]) (cond (t 49) (seq (reg [⟨(some 50), bld [.int .i64 0, .int .i64 0] [], none⟩, ⟨none, st (t 2) 2 (t 50), none⟩, ⟨(some 3), mv (c (.int .i64 5)), none⟩]) (ret)) (skip))) (seq (reg [⟨(some 51), ld (t 11) 2 true, none⟩, ⟨none, st (t 2) 2 (t 51), none⟩, ⟨(some 3), mv (c (.int .i64 0)), none⟩]) (ret))))))))
def r_impl_ReadFraction : List ARes := [.cell 2 2 true, .tmp 3]
theorem k_impl_ReadFraction : acLin Go.Proofs.Tryz.prog 18 1 (inQ [17, 44, 45, 46] []) [] = some (c_impl_ReadFraction, r_impl_ReadFraction) := by kernel_rfl
def c_spec_l01Split : AC := seq (reg [⟨(some 4), mv (c (.sl [] true)), none⟩]) (seq (reg [⟨(some 8), bsl 1 0 [.str ⟨#[]⟩] [], none⟩, ⟨(some 5), mv (t 8), none⟩]) (seq (reg [⟨(some 6), mv (c (.int .i64 0)), none⟩]) (seq (seq (reg [⟨(some 7), mv (c (.int .i64 0)), none⟩]) (block 0 (loop (seq (seq (reg [⟨(some 9), mv (t 7), none⟩, ⟨(some 10), mv (t 0), none⟩, ⟨(some 11), lens (t 10), none⟩, ⟨(some 12), bin .lss (t 9) (t 11), none⟩]) (cond (t 12) (skip) (exit 0))) (seq (block 1 (seq (reg [⟨(some 15), mv (t 0), none⟩, ⟨(some 16), mv (t 7), none⟩, ⟨(some 17), idx (t 15) (t 16), none⟩, ⟨(some 18), mv (t 1), none⟩, ⟨(some 19), bin .eql (t 17) (t 18), none⟩]) (cond (t 19) (seq (reg [⟨(some 20), mv (t 5), none⟩, ⟨(some 21), mv (t 0), none⟩, ⟨(some 22), mv (t 6), none⟩, ⟨(some 23), mv (t 7), none⟩, ⟨(some 24), sls (t 21) (some (t 22)) (some (t 23)), none⟩, ⟨(some 25), bsl 1 1 [.str ⟨#[]⟩] [(0, t 24)], none⟩, ⟨(some 26), app 1 16 (t 20) (t 25), none⟩, ⟨(some 5), mv (t 26), none⟩]) (reg [⟨(some 27), mv (t 7), none⟩, ⟨(some 28), bin .add (t 27) (c (.int .i64 1)), none⟩, ⟨(some 6), mv (t 28), none⟩])) (skip)))) (reg [⟨(some 13), mv (t 7), none⟩, ⟨(some 14), bin .add (t 13) (c (.int .i64 1)), none⟩, ⟨(some 7), mv (t 14), none⟩])))))) (seq (reg [⟨(some 29), mv (t 5), none⟩, ⟨(some 30), mv (t 0), none⟩, ⟨(some 31), mv (t 6), none⟩, ⟨(some 32), sls (t 30) (some (t 31)) none, none⟩, ⟨(some 33), bsl 1 1 [.str ⟨#[]⟩] [(0, t 32)], none⟩, ⟨(some 34), app 1 16 (t 29) (t 33), none⟩, ⟨(some 4), mv (t 34), none⟩]) (ret)))))
def r_spec_l01Split : List ARes := [.tmp 4]
theorem k_spec_l01Split : acLin Go.Proofs.Tryz.prog 9 2 (inQ [] []) [] = some (c_spec_l01Split, r_spec_l01Split) := by kernel_rfl
def c_spec_l01Number : AC := seq (reg [⟨(some 2), mv (c (.int .i64 0)), none⟩, ⟨(some 3), mv (c (.bool false)), none⟩]) (seq (seq (reg [⟨(some 6), mv (t 0), none⟩, ⟨(some 7), lens (t 6), none⟩, ⟨(some 8), bin .lss (t 7) (c (.int .i64 1)), none⟩, ⟨(some 9), mv (t 8), none⟩, ⟨(some 10), mv (t 0), some (9, false)⟩, ⟨(some 11), lens (t 10), some (9, false)⟩, ⟨(some 12), bin .gtr (t 11) (c (.int .i64 9)), some (9, false)⟩, ⟨(some 13), pick (t 9) (c (.bool true)) (t 12), none⟩, ⟨(some 14), mv (t 13), none⟩, ⟨(some 15), mv (t 0), some (14, false)⟩, ⟨(some 16), idx (t 15) (c (.int .i64 0)), some (14, false)⟩, ⟨(some 17), bin .eql (t 16) (c (.int .u8 48)), some (14, false)⟩, ⟨(some 18), mv (t 17), some (14, false)⟩, ⟨(some 19), mv (t 0), some (18, true)⟩, ⟨(some 20), lens (t 19), some (18, true)⟩, ⟨(some 21), bin .gtr (t 20) (c (.int .i64 1)), some (18, true)⟩, ⟨(some 22), pick (t 18) (t 21) (c (.bool false)), some (14, false)⟩, ⟨(some 23), pick (t 14) (c (.bool true)) (t 22), none⟩]) (cond (t 23) (seq (reg [⟨(some 2), mv (c (.int .i64 0)), none⟩, ⟨(some 3), mv (c (.bool false)), none⟩]) (ret)) (skip))) (seq (reg [⟨(some 4), mv (c (.int .i64 0)), none⟩]) (seq (seq (reg [⟨(some 5), mv (c (.int .i64 0)), none⟩]) (block 0 (loop (seq (seq (reg [⟨(some 24), mv (t 5), none⟩, ⟨(some 25), mv (t 0), none⟩, ⟨(some 26), lens (t 25), none⟩, ⟨(some 27), bin .lss (t 24) (t 26), none⟩]) (cond (t 27) (skip) (exit 0))) (seq (block 1 (seq (seq (reg [⟨(some 30), mv (t 0), none⟩, ⟨(some 31), mv (t 5), none⟩, ⟨(some 32), idx (t 30) (t 31), none⟩, ⟨(some 33), bin .lss (t 32) (c (.int .u8 48)), none⟩, ⟨(some 34), mv (t 33), none⟩, ⟨(some 35), mv (t 0), some (34, false)⟩, ⟨(some 36), mv (t 5), some (34, false)⟩, ⟨(some 37), idx (t 35) (t 36), some (34, false)⟩, ⟨(some 38), bin .gtr (t 37) (c (.int .u8 57)), some (34, false)⟩, ⟨(some 39), pick (t 34) (c (.bool true)) (t 38), none⟩]) (cond (t 39) (seq (reg [⟨(some 2), mv (c (.int .i64 0)), none⟩, ⟨(some 3), mv (c (.bool false)), none⟩]) (ret)) (skip))) (reg [⟨(some 40), mv (t 4), none⟩, ⟨(some 41), bin .mul (t 40) (c (.int .i64 10)), none⟩, ⟨(some 42), mv (t 0), none⟩, ⟨(some 43), mv (t 5), none⟩, ⟨(some 44), idx (t 42) (t 43), none⟩, ⟨(some 45), bin .sub (t 44) (c (.int .u8 48)), none⟩, ⟨(some 46), conv .i64 (t 45), none⟩, ⟨(some 47), bin .add (t 41) (t 46), none⟩, ⟨(some 4), mv (t 47), none⟩]))) (reg [⟨(some 28), mv (t 5), none⟩, ⟨(some 29), bin .add (t 28) (c (.int .i64 1)), none⟩, ⟨(some 5), mv (t 29), none⟩])))))) (seq (reg [⟨(some 48), mv (t 4), none⟩, ⟨(some 2), mv (t 48), none⟩, ⟨(some 3), mv (c (.bool true)), none⟩]) (ret)))))
def r_spec_l01Number : List ARes := [.tmp 2, .tmp 3]
theorem k_spec_l01Number : acLin Go.Proofs.Tryz.prog 35 1 (inQ [] []) [] = some (c_spec_l01Number, r_spec_l01Number) := by kernel_rfl
def c_spec_l02Whole : AC := seq (reg [⟨(some 2), mv (c (.int .i64 0)), none⟩, ⟨(some 3), mv (c (.bool false)), none⟩]) (seq (seq (reg [⟨(some 4), mv (t 0), none⟩, ⟨(some 5), lens (t 4), none⟩, ⟨(some 6), bin .eql (t 5) (c (.int .i64 10)), none⟩, ⟨(some 7), mv (t 6), none⟩, ⟨(some 8), mv (t 0), some (7, true)⟩, ⟨(some 9), bin .eql (t 8) (c (.str ⟨#[49, 48, 48, 48, 48, 48, 48, 48, 48, 48]⟩)), some (7, true)⟩, ⟨(some 10), pick (t 7) (t 9) (c (.bool false)), none⟩]) (cond (t 10) (seq (reg [⟨(some 2), mv (c (.int .i64 1000000000)), none⟩, ⟨(some 3), mv (c (.bool true)), none⟩]) (ret)) (skip))) (seq (reg [⟨(some 11), mv (t 0), none⟩, ⟨(some 12), callq (c (.fn 35 [])) [t 11], none⟩, ⟨(some 13), ext (t 12) 0, none⟩, ⟨(some 14), ext (t 12) 1, none⟩, ⟨(some 2), mv (t 13), none⟩, ⟨(some 3), mv (t 14), none⟩]) (ret)))
def r_spec_l02Whole : List ARes := [.tmp 2, .tmp 3]
theorem k_spec_l02Whole : acLin Go.Proofs.Tryz.prog 32 1 (inQ [35] []) [] = some (c_spec_l02Whole, r_spec_l02Whole) := by kernel_rfl
def c_spec_l02Read : AC := seq (reg [⟨(some 2), alloc [.int .i64 0, .int .i64 0], none⟩, ⟨(some 3), mv (c (.bool false)), none⟩]) (seq (reg [⟨(some 11), mv (t 0), none⟩, ⟨(some 12), calle (c (.fn 9 [])) [t 11, c (.int .u8 47)] [], none⟩, ⟨(some 4), mv (t 12), none⟩]) (seq (reg [⟨(some 13), mv (t 4), none⟩, ⟨(some 14), iad 1 (t 13) (c (.int .i64 0)), none⟩, ⟨(some 15), ld (t 14) 1 false, none⟩, ⟨(some 5), mv (t 15), none⟩]) (seq (reg [⟨(some 16), mv (t 5), none⟩, ⟨(some 17), lens (t 16), none⟩, ⟨(some 18), bin .gtr (t 17) (c (.int .i64 0)), none⟩, ⟨(some 19), mv (t 18), none⟩, ⟨(some 20), mv (t 5), some (19, true)⟩, ⟨(some 21), idx (t 20) (c (.int .i64 0)), some (19, true)⟩, ⟨(some 22), bin .eql (t 21) (c (.int .u8 45)), some (19, true)⟩, ⟨(some 23), pick (t 19) (t 22) (c (.bool false)), none⟩, ⟨(some 6), mv (t 23), none⟩]) (seq (seq (reg [⟨(some 24), mv (t 6), none⟩]) (cond (t 24) (reg [⟨(some 25), mv (t 5), none⟩, ⟨(some 26), sls (t 25) (some (c (.int .i64 1))) none, none⟩, ⟨(some 5), mv (t 26), none⟩]) (skip))) (seq (reg [⟨(some 28), mv (t 5), none⟩, ⟨(some 29), callq (c (.fn 32 [])) [t 28], none⟩, ⟨(some 27), mv (t 29), none⟩, ⟨(some 30), ext (t 27) 0, none⟩, ⟨(some 31), ext (t 27) 1, none⟩, ⟨(some 7), mv (t 30), none⟩, ⟨(some 8), mv (t 31), none⟩]) (seq (reg [⟨(some 32), mv (t 7), none⟩, ⟨(some 33), bld [.int .i64 0, .int .i64 0] [(0, 1, t 32), (1, 1, c (.int .i64 1))], none⟩, ⟨(some 9), alloc [.int .i64 0, .int .i64 0], none⟩, ⟨none, st (t 9) 2 (t 33), none⟩]) (seq (seq (reg [⟨(some 34), mv (t 6), none⟩]) (cond (t 34) (reg [⟨(some 35), mv (t 7), none⟩, ⟨(some 36), un .neg (t 35), none⟩, ⟨(some 37), fad (t 9) 0, none⟩, ⟨none, st (t 37) 1 (t 36), none⟩]) (skip))) (seq (reg [⟨(some 38), mv (t 4), none⟩, ⟨(some 39), len (t 38), none⟩, ⟨(some 40), bin .eql (t 39) (c (.int .i64 1)), none⟩, ⟨(some 10), mv (t 40), none⟩]) (seq (seq (reg [⟨(some 41), mv (t 4), none⟩, ⟨(some 42), len (t 41), none⟩, ⟨(some 43), bin .eql (t 42) (c (.int .i64 2)), none⟩]) (cond (t 43) (reg [⟨(some 45), mv (t 4), none⟩, ⟨(some 46), iad 1 (t 45) (c (.int .i64 1)), none⟩, ⟨(some 47), ld (t 46) 1 false, none⟩, ⟨(some 48), callq (c (.fn 32 [])) [t 47], none⟩, ⟨(some 44), mv (t 48), none⟩, ⟨(some 49), ext (t 44) 0, none⟩, ⟨(some 50), ext (t 44) 1, none⟩, ⟨(some 51), fad (t 9) 1, none⟩, ⟨none, st (t 51) 1 (t 49), none⟩, ⟨(some 10), mv (t 50), none⟩]) (skip))) (seq (reg [⟨(some 52), ld (t 9) 2 true, none⟩, ⟨(some 53), mv (t 8), none⟩, ⟨(some 54), mv (t 53), none⟩, ⟨(some 55), mv (t 10), some (54, true)⟩, ⟨(some 56), pick (t 54) (t 55) (c (.bool false)), none⟩, ⟨(some 57), mv (t 56), none⟩, ⟨(some 58), ld (t 9) 2 true, some (57, true)⟩, ⟨(some 59), callq (c (.fn 33 [])) [t 58], some (57, true)⟩, ⟨(some 60), pick (t 57) (t 59) (c (.bool false)), none⟩, ⟨(some 61), mv (t 60), none⟩, ⟨(some 62), ld (t 9) 2 true, some (61, true)⟩, ⟨(some 63), callq (c (.fn 34 [])) [t 62], some (61, true)⟩, ⟨(some 64), mv (t 0), some (61, true)⟩, ⟨(some 65), bin .eql (t 63) (t 64), some (61, true)⟩, ⟨(some 66), pick (t 61) (t 65) (c (.bool false)), none⟩, ⟨none, st (t 2) 2 (t 52), none⟩, ⟨(some 3), mv (t 66), none⟩]) (ret)))))))))))
def r_spec_l02Read : List ARes := [.cell 2 2 true, .tmp 3]
theorem k_spec_l02Read : acLin Go.Proofs.Tryz.prog 11 1 (inQ [32, 33, 34] [9]) [⟨false, none, [], [], none⟩, ⟨false, none, [], [], none⟩, ⟨false, none, [], [], none⟩, ⟨false, none, [], [], none⟩, ⟨false, none, [], [], none⟩, ⟨false, none, [], [], none⟩, ⟨false, none, [], [], none⟩, ⟨false, none, [], [], none⟩, ⟨false, none, [], [], none⟩, ⟨false, none, [], [], none⟩, ⟨false, none, [], [], none⟩, ⟨false, none, [], [], none⟩, ⟨false, none, [], [], none⟩, ⟨false, some [0, 1, 2, 3, 4, 5, 6, 7, 8, 9, 10, 11, 12, 13, 14, 15, 16], [], [], none⟩] = some (c_spec_l02Read, r_spec_l02Read) := by kernel_rfl
end Go.Proofs.YtgiakpeneckgfaaGreatDoorAi
end

section
/- Contracts: number, strings.Cut, ReadFraction of the program. -/
namespace Go.Proofs.YtgiakpeneckgfaaGreatDoorAi
open Go Go.RowKit
set_option linter.unusedVariables false
set_option linter.unusedSimpArgs false
set_option maxRecDepth 20000

def numB (s : ByteArray) : Bool := numE s && (decB (numV s) == s)
theorem numV_in (s : ByteArray) (h : numE s = true) : -9223372036854775808 ≤ numV s ∧ numV s ≤ 9223372036854775807 := by
  unfold numE at h
  unfold numV
  cases hp : Go.Lib.parseIntB 64 s.data.toList with
  | ok v => exact pI_in hp
  | range => rw [hp] at h; cases h
  | _ => rw [hp] at h; cases h
theorem ba_eq {a b : ByteArray} : (a == b) = decide (a = b) := by
  show (a.data == b.data) = _
  rw [Bool.eq_iff_iff, decide_eq_true_iff, beq_iff_eq]
  exact ⟨fun h => ByteArray.ext h, fun h => by rw [h]⟩
theorem num_dec (n : Int) (h0 : -9223372036854775808 ≤ n) (h1 : n ≤ 9223372036854775807) : numV (decB n) = n ∧ numB (decB n) = true := by
  have hp := pI_dec n h0 h1
  have e1 : numV (decB n) = n := by unfold numV; rw [hp]
  have e2 : numE (decB n) = true := by unfold numE; rw [hp]
  refine ⟨e1, ?_⟩
  unfold numB
  rw [e1, e2, beq_ba]; rfl
noncomputable def sp_numI : List AV → Option (AV) := pf (ι := (ByteArray)) (α := AV) (fun s => s.size ≤ 1048576) (fun s => [.str s]) (fun s => .tup [.int .i64 (numV s), .bool (numB s)])
theorem sp_numI_eq (s : ByteArray) (h : s.size ≤ 1048576) : sp_numI [.str s] = some (.tup [.int .i64 (numV s), .bool (numB s)]) := by
  unfold sp_numI
  exact pf_eq (ι := (ByteArray)) (α := AV) s h (by rintro s' _ e; simp_all [Int.natCast_inj])
theorem q_impl_number : QP PP 44 sp_numI := by
  refine QP_pf (fun s h => ?_) fun s h => ?_
  · exact ⟨by first | rfl | simp, by first | rfl | simp⟩
  replace h : s.size ≤ 1048576 := h
  refine P_code (Quiet.q1 q_strconv_ParseInt (Quiet.q1 q_impl_decimal Quiet.nil)) hmix k_impl_number rfl ?_ ?_
  · first | rfl | simp
  show wpc 0 PP _ c_impl_number (initSt [.str s] .nil) (endP r_impl_number (.tup [.int .i64 (numV s), .bool (numB s)]))
  have hp := sp_parseI_eq s h
  unfold numB
  cases he : numE s with
  | false =>
    have e : parErr s = .iface := by unfold parErr; rw [he]; rfl
    rw [e] at hp
    simp -dsimp -implicitDefEqProofs [c_impl_number, r_impl_number, hp]
  | true =>
    have e : parErr s = .nili := by unfold parErr; rw [he]; rfl
    rw [e] at hp
    have hd := sp_decimal_eq (numV s) (numV_in s he)
    simp -dsimp -implicitDefEqProofs [c_impl_number, r_impl_number, hp, hd]

def cutA (s sep : ByteArray) : ByteArray := ⟨(Go.Lib.cut s.data.toList sep.data.toList).1.toArray⟩
def cutB (s sep : ByteArray) : ByteArray := ⟨(Go.Lib.cut s.data.toList sep.data.toList).2.1.toArray⟩
def cutI (s sep : ByteArray) : Bool := (Go.Lib.cut s.data.toList sep.data.toList).2.2
noncomputable def sp_cutS : List AV → Option (AV) := pf (ι := (ByteArray) × (ByteArray)) (α := AV) (fun ⟨s, sep⟩ => s.size ≤ 1048576) (fun ⟨s, sep⟩ => [.str s, .str sep]) (fun ⟨s, sep⟩ => .tup [.str (cutA s sep), .str (cutB s sep), .bool (cutI s sep)])
theorem sp_cutS_eq (s sep : ByteArray) (h : s.size ≤ 1048576) : sp_cutS [.str s, .str sep] = some (.tup [.str (cutA s sep), .str (cutB s sep), .bool (cutI s sep)]) := by
  unfold sp_cutS
  exact pf_eq (ι := (ByteArray) × (ByteArray)) (α := AV) (s, sep) h (by rintro ⟨s', sep'⟩ _ e; simp_all [Int.natCast_inj])
theorem q_strings_Cut : QP PP 17 sp_cutS := by
  refine QP_pf (fun i h => ?_) fun i h => ?_
  · obtain ⟨s, sep⟩ := i; exact ⟨by first | rfl | simp, by first | rfl | simp⟩
  obtain ⟨s, sep⟩ := i
  replace h : s.size ≤ 1048576 := h
  refine T.lib ⟨_, Tryz.func17, by kernel_rfl, by kernel_rfl⟩ (fun σ w vs hr hG => ?_) .nil
  obtain ⟨v1, us, rfl, h1, h2⟩ := hr.head
  obtain ⟨v2, us2, rfl, h3, h4⟩ := h2.head
  obtain rfl : us2 = [] := List.eq_nil_of_length_eq_zero h4.1.symm
  cases h1; cases h3
  obtain ⟨m, hm⟩ := hG.max (by kernel_rfl)
  refine (Tryz.strings_Cut s sep m w (by omega) (var_cell0 (by kernel_rfl) hm)).mono ?_
  rintro e w' ⟨rfl, n, rfl⟩
  refine ⟨_, rfl, ⟨rfl, rfl, rfl, Nat.le_refl _, fun _ _ => rfl⟩, ?_⟩
  exact .tup [.str (cutA s sep), .str (cutB s sep), .bool (cutI s sep)] [.string _, .string _, .bool _] rfl (fun i c z hc hz => by
    match i, hc, hz with
    | 0, hc, hz => cases hc; cases hz; exact .str _
    | 1, hc, hz => cases hc; cases hz; exact .str _
    | 2, hc, hz => cases hc; cases hz; exact .bool _
    | n + 3, hc, hz => cases hc)
theorem cut_sizes (s sep : ByteArray) : (cutA s sep).size ≤ s.size ∧ (cutB s sep).size ≤ s.size := by
  have e : s.size = s.data.toList.length := by rw [Array.length_toList]; rfl
  unfold cutA cutB Go.Lib.cut
  rw [e]
  split
  · simp only [ba_size, List.size_toArray, List.length_take, List.length_drop]; omega
  · simp only [ba_size, List.size_toArray, List.length_nil]; omega
def onesB : ByteArray := ⟨#[49]⟩
def topS (s : ByteArray) : ByteArray := cutA s slashB
def botS (s : ByteArray) : ByteArray := if cutI s slashB = true then cutB s slashB else onesB
def readOk (s : ByteArray) : Bool := (numB (topS s) && numB (botS s)) && frOk (numV (topS s)) (numV (botS s)) && (frT (numV (topS s)) (numV (botS s)) == s)
def readR (s : ByteArray) : AV := if readOk s = true then .tup [.agg [.int .i64 (numV (topS s)), .int .i64 (numV (botS s))], .int .i64 0] else .tup [.agg [.int .i64 0, .int .i64 0], .int .i64 5]
theorem readR_lt (s : ByteArray) : (readR s).lt 0 = true := by unfold readR; split <;> rfl
noncomputable def sp_readFr : List AV → Option (AV) := pf (ι := (ByteArray)) (α := AV) (fun s => s.size ≤ 1048576) (fun s => [.str s]) (fun s => readR s)
theorem sp_readFr_eq (s : ByteArray) (h : s.size ≤ 1048576) : sp_readFr [.str s] = some (readR s) := by
  unfold sp_readFr
  exact pf_eq (ι := (ByteArray)) (α := AV) s h (by rintro s' _ e; simp_all [Int.natCast_inj])
attribute [simp] readR_lt
theorem q_impl_ReadFraction : QP PP 18 sp_readFr := by
  refine QP_pf (fun s h => ?_) fun s h => ?_
  · exact ⟨by first | rfl | simp, by first | rfl | simp⟩
  replace h : s.size ≤ 1048576 := h
  refine P_code (Quiet.q1 q_strings_Cut (Quiet.q1 q_impl_number (Quiet.q1 q_impl_ValidFraction (Quiet.q1 q_impl_Fraction_text Quiet.nil)))) hmix k_impl_ReadFraction rfl ?_ ?_
  · first | rfl | simp
  show wpc 0 PP _ c_impl_ReadFraction (initSt [.str s] .nil) (endP r_impl_ReadFraction (readR s))
  have hc := sp_cutS_eq s slashB h
  have hs := cut_sizes s slashB
  have hA := sp_numI_eq (topS s) (by unfold topS; omega)
  have hB := sp_numI_eq (botS s) (by
    unfold botS
    split
    · omega
    · show 1 ≤ 1048576; omega)
  unfold readR
  have hc' : sp_cutS [.str s, .str ⟨#[47]⟩] = some (.tup [.str (topS s), .str (cutB s slashB), .bool (cutI s slashB)]) := hc
  cases hi : cutI s slashB <;> rw [hi] at hc'
  · have eb : botS s = onesB := by unfold botS; rw [hi]; rfl
    rw [eb] at hB
    have hB' : sp_numI [.str ⟨#[49]⟩] = some (.tup [.int .i64 (numV onesB), .bool (numB onesB)]) := hB
    unfold readOk
    rw [eb]
    cases h1 : numB (topS s) <;> cases h2 : numB onesB <;> rw [h1] at hA <;> rw [h2] at hB'
    · simp -dsimp -implicitDefEqProofs [c_impl_ReadFraction, r_impl_ReadFraction, hc', hA, hB']
    · simp -dsimp -implicitDefEqProofs [c_impl_ReadFraction, r_impl_ReadFraction, hc', hA, hB']
    · simp -dsimp -implicitDefEqProofs [c_impl_ReadFraction, r_impl_ReadFraction, hc', hA, hB']
    · cases h3 : frOk (numV (topS s)) (numV onesB) with
      | false => simp -dsimp -implicitDefEqProofs [c_impl_ReadFraction, r_impl_ReadFraction, hc', hA, hB', h3]
      | true =>
        have hb := frOk_bd h3
        have ht := sp_frText_eq (numV (topS s)) (numV onesB) (by omega)
        cases h4 : (frT (numV (topS s)) (numV onesB) == s) with
        | false =>
          have h4' : (frT (numV (topS s)) (numV onesB) != s) = true := by unfold bne; rw [h4]; rfl
          simp -dsimp -implicitDefEqProofs [c_impl_ReadFraction, r_impl_ReadFraction, hc', hA, hB', h3, ht, h4, h4']
        | true =>
          have h4' : (frT (numV (topS s)) (numV onesB) != s) = false := by unfold bne; rw [h4]; rfl
          simp -dsimp -implicitDefEqProofs [c_impl_ReadFraction, r_impl_ReadFraction, hc', hA, hB', h3, ht, h4, h4']
  · have eb : botS s = cutB s slashB := by unfold botS; rw [hi]; rfl
    rw [eb] at hB
    unfold readOk
    rw [eb]
    generalize cutB s slashB = bs at *
    cases h1 : numB (topS s) <;> cases h2 : numB bs <;> rw [h1] at hA <;> rw [h2] at hB
    · simp -dsimp -implicitDefEqProofs [c_impl_ReadFraction, r_impl_ReadFraction, hc', hA, hB]
    · simp -dsimp -implicitDefEqProofs [c_impl_ReadFraction, r_impl_ReadFraction, hc', hA, hB]
    · simp -dsimp -implicitDefEqProofs [c_impl_ReadFraction, r_impl_ReadFraction, hc', hA, hB]
    · cases h3 : frOk (numV (topS s)) (numV bs) with
      | false => simp -dsimp -implicitDefEqProofs [c_impl_ReadFraction, r_impl_ReadFraction, hc', hA, hB, h3]
      | true =>
        have hb := frOk_bd h3
        have ht := sp_frText_eq (numV (topS s)) (numV bs) (by omega)
        cases h4 : (frT (numV (topS s)) (numV bs) == s) with
        | false =>
          have h4' : (frT (numV (topS s)) (numV bs) != s) = true := by unfold bne; rw [h4]; rfl
          simp -dsimp -implicitDefEqProofs [c_impl_ReadFraction, r_impl_ReadFraction, hc', hA, hB, h3, ht, h4, h4']
        | true =>
          have h4' : (frT (numV (topS s)) (numV bs) != s) = false := by unfold bne; rw [h4]; rfl
          simp -dsimp -implicitDefEqProofs [c_impl_ReadFraction, r_impl_ReadFraction, hc', hA, hB, h3, ht, h4, h4']
end Go.Proofs.YtgiakpeneckgfaaGreatDoorAi
end

section
/- Contracts: numbers and pieces of texts of the reference. -/
namespace Go.Proofs.YtgiakpeneckgfaaGreatDoorAi
open Go Go.RowKit
set_option linter.unusedVariables false
set_option linter.unusedSimpArgs false
set_option maxRecDepth 20000

def bAt (s : ByteArray) (i : Nat) : Int := ((s.data.toList[i]?.getD 0).toNat : Int)
theorem bAt_in (s : ByteArray) (i : Nat) : 0 ≤ bAt s i ∧ bAt s i ≤ 255 := by
  unfold bAt
  have := (s.data.toList[i]?.getD 0).toNat_lt
  omega
theorem bAt_get (s : ByteArray) (i : Nat) (h : i < s.size) : ((s[i]'h).toNat : Int) = bAt s i := by
  have h' : i < s.data.toList.length := by rw [Array.length_toList]; exact h
  unfold bAt
  rw [List.getElem?_eq_getElem h']
  rfl
theorem idx_at (s : ByteArray) (i : Nat) (h : i < s.size) : bytA s (i : Int) = some (.int .u8 (bAt s i)) := by
  unfold bytA
  rw [dif_pos ⟨by omega, by simpa using h⟩]
  congr 2
  exact bAt_get s i h
def isDig (c : Int) : Bool := decide (48 ≤ c) && decide (c ≤ 57)
def nV (s : ByteArray) : Nat → Int
  | 0 => 0
  | i + 1 => nV s i * 10 + (bAt s i - 48)
def nOk (s : ByteArray) : Nat → Bool
  | 0 => true
  | i + 1 => nOk s i && isDig (bAt s i)
theorem nV_in (s : ByteArray) : ∀ i, nOk s i = true → 0 ≤ nV s i ∧ nV s i < 10 ^ i
  | 0, _ => by simp [nV]
  | i + 1, h => by
    simp only [nOk, isDig, Bool.and_eq_true, decide_eq_true_eq] at h
    have ih := nV_in s i h.1
    simp only [nV]
    have : (10 : Int) ^ (i + 1) = 10 ^ i * 10 := Int.pow_succ ..
    omega
theorem nOk_false {s : ByteArray} {i : Nat} (h : isDig (bAt s i) = false) : ∀ j, i < j → nOk s j = false
  | 0, h0 => by omega
  | j + 1, h0 => by
    rw [nOk]
    by_cases e : i = j
    · subst e; rw [h]; simp
    · rw [nOk_false h j (by omega)]; rfl
def l01B (s : ByteArray) : Bool := !(decide (s.size < 1) || decide (9 < s.size)) && !((bAt s 0 == 48) && decide (1 < s.size)) && nOk s s.size
def l01V (s : ByteArray) : Int := if l01B s = true then nV s s.size else 0
noncomputable def sp_l01Num : List AV → Option (AV) := pf (ι := (ByteArray)) (α := AV) (fun s => s.size ≤ 1048576) (fun s => [.str s]) (fun s => .tup [.int .i64 (l01V s), .bool (l01B s)])
theorem sp_l01Num_eq (s : ByteArray) (h : s.size ≤ 1048576) : sp_l01Num [.str s] = some (.tup [.int .i64 (l01V s), .bool (l01B s)]) := by
  unfold sp_l01Num
  exact pf_eq (ι := (ByteArray)) (α := AV) s h (by rintro s' _ e; simp_all [Int.natCast_inj])
theorem q_spec_l01Number : QP PP 35 sp_l01Num := by
  refine QP_pf (fun s h => ?_) fun s h => ?_
  · exact ⟨by first | rfl | simp, by first | rfl | simp⟩
  replace h : s.size ≤ 1048576 := h
  refine P_code Quiet.nil hmix k_spec_l01Number rfl ?_ ?_
  · first | rfl | simp
  show wpc 0 PP _ c_spec_l01Number (initSt [.str s] .nil) (endP r_spec_l01Number (.tup [.int .i64 (l01V s), .bool (l01B s)]))
  by_cases h1 : s.size < 1
  · have hv : l01B s = false := by unfold l01B; simp [h1]
    have hz : s.size = 0 := by omega
    simp -dsimp -implicitDefEqProofs [c_spec_l01Number, r_spec_l01Number, hz, hv, l01V]
  by_cases h9 : 9 < s.size
  · have hv : l01B s = false := by unfold l01B; simp [h9]
    have h1' : ¬ ((s.size : Int) < 1) := by omega
    have h9' : (9 : Int) < s.size := by omega
    simp -dsimp -implicitDefEqProofs [c_spec_l01Number, r_spec_l01Number, h1, h9, h1', h9', hv, l01V]
  have h1' : ¬ ((s.size : Int) < 1) := by omega
  have h9' : ¬ (9 : Int) < s.size := by omega
  have i0 : bytA s 0 = some (.int .u8 (bAt s 0)) := idx_at s 0 (by omega)
  by_cases hz : (bAt s 0 == 48) = true ∧ 1 < s.size
  · have hv : l01B s = false := by unfold l01B; rw [hz.1]; simp [hz.2]
    have hz2 : (1 : Int) < s.size := by omega
    simp -dsimp -implicitDefEqProofs [c_spec_l01Number, r_spec_l01Number, h1, h9, h1', h9', i0, hz.1, hz.2, hz2, hv, l01V]
  have hz' : ((bAt s 0 == 48) && decide ((1 : Int) < s.size)) = false := by
    cases e : (bAt s 0 == 48) with
    | false => rfl
    | true =>
      have : ¬ 1 < s.size := fun h => hz ⟨e, h⟩
      simp; omega
  have hz'' : ((bAt s 0 == 48) && decide (1 < s.size)) = false := by
    cases e : (bAt s 0 == 48) with
    | false => rfl
    | true =>
      have : ¬ 1 < s.size := fun h => hz ⟨e, h⟩
      simp; omega
  have hB : l01B s = nOk s s.size := by unfold l01B; rw [hz'']; simp [h1, h9]
  cases e48 : (bAt s 0 == 48) <;> rw [e48] at hz' <;> simp only [Bool.false_and, Bool.true_and, decide_eq_false_iff_not] at hz'
  all_goals simp -dsimp -implicitDefEqProofs [c_spec_l01Number, r_spec_l01Number, h1, h9, h1', h9', i0, e48, hz']
  all_goals
    refine wpLoop_st (fun (i : Nat) => ⟨tl [(0, .str s), (4, .int .i64 (nV s i)), (5, .int .i64 i)], ⟨[]⟩⟩) (fun i => i ≤ s.size ∧ nOk s i = true) (fun i => s.size - i) 0 ⟨by omega, rfl⟩ (Sub.keep (by simp) (by simp [hsub]) (by simp [nV])) ?_
    rintro i ⟨hi, ho⟩
    simp -dsimp -implicitDefEqProofs
    refine brW_of (fun h => ?_) (fun h => ?_) <;> simp only [decide_eq_true_eq, decide_eq_false_iff_not] at h
    · have hx : i < s.size := by omega
      have hw := wrapNat (i := i) (by omega)
      have hg := idx_at s i hx
      have hb := bAt_in s i
      have hn := nV_in s i ho
      have hp9 : (10 : Int) ^ i ≤ 10 ^ 9 := by
        have : i ≤ 9 := by omega
        exact_mod_cast Nat.pow_le_pow_right (by decide) this
      cases hd : isDig (bAt s i) with
      | false =>
        have hf : l01B s = false := by rw [hB]; exact nOk_false hd s.size hx
        unfold isDig at hd
        by_cases c1 : 48 ≤ bAt s i
        · have c2 : 57 < bAt s i := by
            rw [decide_eq_true c1] at hd
            have := of_decide_eq_false (by simpa using hd : decide (bAt s i ≤ 57) = false)
            omega
          have c1' : ¬ bAt s i < 48 := by omega
          simp -dsimp -implicitDefEqProofs [hg, c1', c2, hf, l01V]
        · have c1' : bAt s i < 48 := by omega
          simp -dsimp -implicitDefEqProofs [hg, c1', hf, l01V]
      | true =>
        have hd' := hd
        unfold isDig at hd
        simp only [Bool.and_eq_true, decide_eq_true_eq] at hd
        have c1 : ¬ bAt s i < 48 := by omega
        have c2 : ¬ 57 < bAt s i := by omega
        have w1 : IntKind.wrap .i64 (nV s i * 10) = nV s i * 10 := wrapI64 (by omega) (by omega)
        have w2 : IntKind.wrap .u8 (bAt s i - 48) = bAt s i - 48 := by simp [IntKind.wrap, IntKind.signed, IntKind.bits]; omega
        have w3 : IntKind.wrap .i64 (bAt s i - 48) = bAt s i - 48 := wrapI64 (by omega) (by omega)
        have w4 : IntKind.wrap .i64 (nV s i * 10 + (bAt s i - 48)) = nV s i * 10 + (bAt s i - 48) := wrapI64 (by omega) (by omega)
        simp -dsimp -implicitDefEqProofs [hg, c1, c2, w1, w2, w3, w4, hw]
        exact .mk (i + 1) ⟨by omega, by rw [nOk, ho, hd']; rfl⟩ (by omega) (Sub.keep (by simp) (by simp [hsub]) (by simp [nV, hw]))
    · have : i = s.size := by omega
      subst this
      have hf : l01B s = true := by rw [hB]; exact ho
      simp -dsimp -implicitDefEqProofs [hf, l01V]
end Go.Proofs.YtgiakpeneckgfaaGreatDoorAi
end

section
/- Contracts: whole numbers and pieces of texts of the reference. -/
namespace Go.Proofs.YtgiakpeneckgfaaGreatDoorAi
open Go Go.RowKit
set_option linter.unusedVariables false
set_option linter.unusedSimpArgs false
set_option maxRecDepth 20000

def billB : ByteArray := ⟨#[49, 48, 48, 48, 48, 48, 48, 48, 48, 48]⟩
def whB (s : ByteArray) : Bool := (s == billB) || l01B s
def whV (s : ByteArray) : Int := if (s == billB) = true then 1000000000 else l01V s
noncomputable def sp_whole2 : List AV → Option (AV) := pf (ι := (ByteArray)) (α := AV) (fun s => s.size ≤ 1048576) (fun s => [.str s]) (fun s => .tup [.int .i64 (whV s), .bool (whB s)])
theorem sp_whole2_eq (s : ByteArray) (h : s.size ≤ 1048576) : sp_whole2 [.str s] = some (.tup [.int .i64 (whV s), .bool (whB s)]) := by
  unfold sp_whole2
  exact pf_eq (ι := (ByteArray)) (α := AV) s h (by rintro s' _ e; simp_all [Int.natCast_inj])
theorem q_spec_l02Whole : QP PP 32 sp_whole2 := by
  refine QP_pf (fun s h => ?_) fun s h => ?_
  · exact ⟨by first | rfl | simp, by first | rfl | simp⟩
  replace h : s.size ≤ 1048576 := h
  refine P_code (Quiet.q1 q_spec_l01Number Quiet.nil) hmix k_spec_l02Whole rfl ?_ ?_
  · first | rfl | simp
  show wpc 0 PP _ c_spec_l02Whole (initSt [.str s] .nil) (endP r_spec_l02Whole (.tup [.int .i64 (whV s), .bool (whB s)]))
  have hn := sp_l01Num_eq s h
  unfold whV whB
  cases hb : (s == billB) with
  | true =>
    have e : s = billB := by rw [ba_eq] at hb; exact of_decide_eq_true hb
    subst e
    have hb' : (billB == (⟨#[49, 48, 48, 48, 48, 48, 48, 48, 48, 48]⟩ : ByteArray)) = true := hb
    have hs : billB.size = 10 := rfl
    simp -dsimp -implicitDefEqProofs [c_spec_l02Whole, r_spec_l02Whole, hb', hs]
  | false =>
    have hb' : (s == (⟨#[49, 48, 48, 48, 48, 48, 48, 48, 48, 48]⟩ : ByteArray)) = false := hb
    cases h10 : ((s.size : Int) == 10) <;> simp -dsimp -implicitDefEqProofs [c_spec_l02Whole, r_spec_l02Whole, hb', h10, hn]

def splF (s : ByteArray) (c : Int) : Nat → Nat → Nat → List ByteArray → List ByteArray
  | 0, _, f, out => out ++ [s.extract f s.size]
  | k + 1, i, f, out => if bAt s i = c then splF s c k (i + 1) (i + 1) (out ++ [s.extract f i]) else splF s c k (i + 1) f out
def splitL (s : ByteArray) (c : Int) : List ByteArray := splF s c s.size 0 0 []
theorem splF_len (s : ByteArray) (c : Int) : ∀ k i f out, (splF s c k i f out).length ≤ out.length + k + 1 ∧ splF s c k i f out ≠ []
  | 0, i, f, out => by simp [splF]
  | k + 1, i, f, out => by
    rw [splF]
    split
    · have := splF_len s c k (i + 1) (i + 1) (out ++ [s.extract f i])
      refine ⟨?_, this.2⟩
      have h1 := this.1
      simp at h1
      omega
    · have := splF_len s c k (i + 1) f out
      exact ⟨by omega, this.2⟩
def spSt (s : ByteArray) (c : Int) (q : Nat × Nat × List ByteArray) : St := ⟨tl [(0, .str s), (1, .int .u8 c), (5, lvS 0 q.2.2), (6, .int .i64 q.2.1), (7, .int .i64 q.1)], ⟨[some (flatA (strsA q.2.2))]⟩⟩
theorem lvS_lt1 (L : List ByteArray) : AV.lt 1 (lvS 0 L) = true := by
  by_cases hL : L = []
  · rw [hL, lvS_nil]; rfl
  · rw [lvS_cons hL]; simp
noncomputable def sp_split : List AV → Option (AV × List (Option (List AV))) := pf (ι := (ByteArray) × (Int)) (α := AV × List (Option (List AV))) (fun ⟨s, c⟩ => s.size ≤ 1048576 ∧ 0 ≤ c ∧ c ≤ 255) (fun ⟨s, c⟩ => [.str s, .int .u8 c]) (fun ⟨s, c⟩ => (.ref 0 1 0 (splitL s c).length .full, [some (flatA (strsA (splitL s c)))]))
theorem sp_split_eq (s : ByteArray) (c : Int) (h : s.size ≤ 1048576 ∧ 0 ≤ c ∧ c ≤ 255) : sp_split [.str s, .int .u8 c] = some ((.ref 0 1 0 (splitL s c).length .full, [some (flatA (strsA (splitL s c)))])) := by
  unfold sp_split
  exact pf_eq (ι := (ByteArray) × (Int)) (α := AV × List (Option (List AV))) (s, c) h (by rintro ⟨s', c'⟩ _ e; simp_all [Int.natCast_inj])
theorem n_spec_l01Split : QN PP 9 sp_split := by
  refine QN_pf (fun i h => ?_) fun i h => ?_
  · obtain ⟨s, c⟩ := i; first | rfl | simp
  obtain ⟨s, c⟩ := i
  replace h : s.size ≤ 1048576 ∧ 0 ≤ c ∧ c ≤ 255 := h
  show T PP 9 [.str s, .int .u8 c] .nil fun r' A' => r' = (((.ref 0 1 0 (splitL s c).length .full, [some (flatA (strsA (splitL s c)))]) : AV × List (Option (List AV)))).1 ∧ A' = ⟨(((.ref 0 1 0 (splitL s c).length .full, [some (flatA (strsA (splitL s c)))]) : AV × List (Option (List AV)))).2⟩
  obtain ⟨hl, hc0, hc1⟩ := h
  refine H_code Quiet.nil hmix k_spec_l01Split rfl (fun _ => 2) (by simp [AHeap.n, AHeap.nil]) (by intro b hb; simp [AHeap.n, AHeap.nil] at hb <;> subst hb <;> rfl) (by rfl) (by first | rfl | simp) ?_
  simp -dsimp -implicitDefEqProofs [c_spec_l01Split, r_spec_l01Split]
  refine wpLoop_st (spSt s c) (fun q => q.1 ≤ s.size ∧ q.2.1 ≤ q.1 ∧ q.2.2.length ≤ q.1 ∧ splF s c (s.size - q.1) q.1 q.2.1 q.2.2 = splitL s c) (fun q => s.size - q.1) (0, 0, []) ⟨by simp, by simp, by simp, rfl⟩ (Sub.keep (by simp [spSt]) (by simp [hsub, spSt]) (by simp [spSt, lvS_nil])) ?_
  rintro ⟨i, f, out⟩ ⟨hi, hf, ho, hs⟩
  simp only at hi hf ho hs
  simp -dsimp -implicitDefEqProofs [spSt]
  refine brW_of (fun h => ?_) (fun h => ?_) <;> simp only [decide_eq_true_eq, decide_eq_false_iff_not] at h
  · have hx : i < s.size := by omega
    have hw := wrapNat (i := i) (by omega)
    have hg := idx_at s i hx
    have hk : s.size - i = (s.size - (i + 1)) + 1 := by omega
    rw [hk, splF] at hs
    by_cases hb : bAt s i = c
    · rw [if_pos hb] at hs
      have hb' : (bAt s i == c) = true := by simpa using hb
      have c1 : f ≤ i ∧ i ≤ s.size := ⟨by omega, by omega⟩
      have c3 : i ≤ s.size := by omega
      have e2 := strS_snoc out (s.extract f i)
      by_cases hL : out = []
      · subst hL
        have l1 : 1 * 17 ≤ mostBytes := by decide
        simp -dsimp -implicitDefEqProofs [hx, hw, hg, hb, hb', lvS_nil, l1, hf, c3]
        refine .mk (i + 1, i + 1, [s.extract f i]) ⟨by simp only; omega, by simp only; omega, by simp, hs⟩ (by simp only; omega) (Sub.mk' (fun b => if b = 0 then 2 else b) (by simp [spSt]) (by intro b hb; simp [spSt] at hb <;> omega) (by rfl) (by simp [hsub, spSt, flatA_cons]) (by simp [spSt, lvS, hw]))
      · have l1 : (out.length + 1) * 17 ≤ mostBytes := by simp only [mostBytes]; omega
        have l2 : ¬ (out.length + 1 ≤ out.length) := by omega
        have l3 : (flatA (strsA out)).take out.length = flatA (strsA out) := List.take_of_length_le (by simp)
        have e5 : out ++ [s.extract f i] ≠ [] := by simp
        simp -dsimp -implicitDefEqProofs [hx, hw, hg, hb, hb', lvS_cons hL, l1, l2, l3, e2, hf, c3]
        refine .mk (i + 1, i + 1, out ++ [s.extract f i]) ⟨by simp only; omega, by simp only; omega, by simp; omega, hs⟩ (by simp only; omega) (Sub.mk' (fun b => if b = 0 then 2 else b) (by simp [spSt]) (by intro b hb; simp [spSt] at hb <;> omega) (by rfl) (by simp [hsub, spSt]) (by simp [spSt, lvS_cons e5, hw]))
    · rw [if_neg hb] at hs
      have hb' : (bAt s i == c) = false := by simpa using hb
      simp -dsimp -implicitDefEqProofs [hx, hw, hg, hb, hb']
      refine .mk (i + 1, f, out) ⟨by simp only; omega, by simp only; omega, by simp only; omega, hs⟩ (by simp only; omega) (Sub.keep (by simp [spSt]) (by simp [hsub, spSt]) (by simp [spSt, hw, lvS_lt1]))
  · have hi' : i = s.size := by omega
    subst hi'
    rw [Nat.sub_self, splF] at hs
    have e2 := strS_snoc out (s.extract f s.size)
    by_cases hL : out = []
    · subst hL
      have l1 : 1 * 17 ≤ mostBytes := by decide
      simp -dsimp -implicitDefEqProofs [lvS_nil, l1, hf, hsub, ← hs, flatA_cons]
    · have l1 : (out.length + 1) * 17 ≤ mostBytes := by simp only [mostBytes]; omega
      have l2 : ¬ (out.length + 1 ≤ out.length) := by omega
      have l3 : (flatA (strsA out)).take out.length = flatA (strsA out) := List.take_of_length_le (by simp)
      simp -dsimp -implicitDefEqProofs [lvS_cons hL, l1, l2, l3, e2, hf, hsub, ← hs]
end Go.Proofs.YtgiakpeneckgfaaGreatDoorAi
end

section
/- Contracts: ReadFraction of the reference. -/
namespace Go.Proofs.YtgiakpeneckgfaaGreatDoorAi
open Go Go.RowKit
set_option linter.unusedVariables false
set_option linter.unusedSimpArgs false
set_option maxRecDepth 20000

theorem flat_strs : ∀ (L : List ByteArray), flatA (strsA L) = strsA L
  | [] => rfl
  | x :: L => by
    rw [flatA_cons, flat_strs L]; rfl
theorem splF_size (s : ByteArray) (c : Int) : ∀ k i f out, (∀ x ∈ out, x.size ≤ s.size) → ∀ x ∈ splF s c k i f out, x.size ≤ s.size
  | 0, i, f, out, h => by
    intro x hx
    rw [splF] at hx
    rcases List.mem_append.1 hx with hx | hx
    · exact h x hx
    · obtain rfl := List.mem_singleton.1 hx
      rw [ByteArray.size_extract]; omega
  | k + 1, i, f, out, h => by
    intro x hx
    rw [splF] at hx
    split at hx
    · refine splF_size s c k _ _ _ (fun y hy => ?_) x hx
      rcases List.mem_append.1 hy with hy | hy
      · exact h y hy
      · obtain rfl := List.mem_singleton.1 hy
        rw [ByteArray.size_extract]; omega
    · exact splF_size s c k _ _ _ h x hx
theorem splitL_size (s : ByteArray) (c : Int) : ∀ x ∈ splitL s c, x.size ≤ s.size := splF_size s c _ _ _ _ (fun x hx => by cases hx)
theorem l01V_in (s : ByteArray) : 0 ≤ l01V s ∧ l01V s ≤ 1000000000 := by
  unfold l01V
  split
  · rename_i h
    unfold l01B at h
    simp only [Bool.and_eq_true, Bool.not_eq_true', Bool.or_eq_false_iff, decide_eq_false_iff_not] at h
    have hn := nV_in s s.size h.2
    have : (10 : Int) ^ s.size ≤ 10 ^ 9 := by
      have : s.size ≤ 9 := by omega
      exact_mod_cast Nat.pow_le_pow_right (by decide) this
    omega
  · omega
theorem whV_in (s : ByteArray) : 0 ≤ whV s ∧ whV s ≤ 1000000000 := by
  unfold whV
  split
  · omega
  · exact l01V_in s
def w0S (s : ByteArray) : ByteArray := (splitL s 47)[0]?.getD noB
def w1S (s : ByteArray) : ByteArray := (splitL s 47)[1]?.getD noB
def negS (s : ByteArray) : Bool := decide (0 < (w0S s).size) && (bAt (w0S s) 0 == 45)
def tpS (s : ByteArray) : ByteArray := if negS s = true then (w0S s).extract 1 (w0S s).size else w0S s
def rdP (s : ByteArray) : Int := if negS s = true then -whV (tpS s) else whV (tpS s)
def rdQ (s : ByteArray) : Int := if (splitL s 47).length = 2 then whV (w1S s) else 1
def rd2 (s : ByteArray) : Bool := if (splitL s 47).length = 2 then whB (w1S s) else decide ((splitL s 47).length = 1)
def rdOk (s : ByteArray) : Bool := (whB (tpS s) && rd2 s) && frOk (rdP s) (rdQ s) && (fracT (rdP s) (rdQ s) == s)
noncomputable def sp_l02Read : List AV → Option (AV) := pf (ι := (ByteArray)) (α := AV) (fun s => s.size ≤ 1048576) (fun s => [.str s]) (fun s => .tup [.agg [.int .i64 (rdP s), .int .i64 (rdQ s)], .bool (rdOk s)])
theorem sp_l02Read_eq (s : ByteArray) (h : s.size ≤ 1048576) : sp_l02Read [.str s] = some (.tup [.agg [.int .i64 (rdP s), .int .i64 (rdQ s)], .bool (rdOk s)]) := by
  unfold sp_l02Read
  exact pf_eq (ι := (ByteArray)) (α := AV) s h (by rintro s' _ e; simp_all [Int.natCast_inj])
set_option maxHeartbeats 4000000 in
theorem q_spec_l02Read : QP PP 11 sp_l02Read := by
  refine QP_pf (fun s h => ?_) fun s h => ?_
  · exact ⟨by first | rfl | simp, by first | rfl | simp⟩
  replace h : s.size ≤ 1048576 := h
  refine P_code (Quiet.q1 q_spec_l02Whole (Quiet.q1 q_spec_l02Ok (Quiet.q1 q_spec_FractionText (Quiet.e1 n_spec_l01Split.toE Quiet.nil)))) hmix k_spec_l02Read rfl ?_ ?_
  · first | rfl | simp
  show wpc 0 PP _ c_spec_l02Read (initSt [.str s] .nil) (endP r_spec_l02Read (.tup [.agg [.int .i64 (rdP s), .int .i64 (rdQ s)], .bool (rdOk s)]))
  have hsp := sp_split_eq s 47 ⟨h, by omega, by omega⟩
  have hne : splitL s 47 ≠ [] := (splF_len s 47 _ _ _ _).2
  have hsz := splitL_size s 47
  have hlen : 0 < (splitL s 47).length := List.length_pos_iff.2 hne
  have hleni : (0 : Int) < (splitL s 47).length := by omega
  have e0 : (splitL s 47)[0]'hlen = w0S s := by unfold w0S; rw [List.getElem?_eq_getElem hlen]; rfl
  have hz0 : (w0S s).size ≤ s.size := by rw [← e0]; exact hsz _ (List.getElem_mem hlen)
  have q0 : (flatA (strsA (splitL s 47)))[0]? = some (.str (w0S s)) := by rw [flat_strs]; simp [e0, hlen]
  have g0 : ∀ h2, (flatA (strsA (splitL s 47)))[0]'h2 = .str (w0S s) := fun h2 => by
    have := q0; rw [List.getElem?_eq_getElem h2] at this; exact Option.some.inj this
  have htp : (tpS s).size ≤ s.size := by
    unfold tpS
    split
    · rw [ByteArray.size_extract]; omega
    · exact hz0
  have hwt := sp_whole2_eq (tpS s) (by omega)
  have hin := whV_in (tpS s)
  have hwn : IntKind.wrap .i64 (-whV (tpS s)) = -whV (tpS s) := wrapI64 (by omega) (by omega)
  have hfo := sp_frOk_eq (rdP s) (rdQ s)
  have hft := sp_fracText_eq (rdP s) (rdQ s)
  have hw1 : (splitL s 47).length = 2 → sp_whole2 [.str (w1S s)] = some (.tup [.int .i64 (whV (w1S s)), .bool (whB (w1S s))]) ∧ (flatA (strsA (splitL s 47)))[1]? = some (.str (w1S s)) := by
    intro h2
    have h2' : 1 < (splitL s 47).length := by omega
    have e1 : (splitL s 47)[1]'h2' = w1S s := by unfold w1S; rw [List.getElem?_eq_getElem h2']; rfl
    refine ⟨sp_whole2_eq (w1S s) ?_, ?_⟩
    · have := hsz _ (List.getElem_mem h2'); rw [e1] at this; omega
    · rw [flat_strs]; simp [e1, h2']
  unfold rdOk
  generalize hW : splitL s 47 = W at *
  cases hn : negS s
  · have eT : tpS s = w0S s := by unfold tpS; rw [hn]; rfl
    have eP : rdP s = whV (tpS s) := by unfold rdP; rw [hn]; rfl
    rw [eP] at hfo hft ⊢
    rw [eT] at hwt hfo hft hwn ⊢
    by_cases hl2 : W.length = 2
    · obtain ⟨ha, hb⟩ := hw1 hl2
      have eQ : rdQ s = whV (w1S s) := by unfold rdQ; rw [hW, if_pos hl2]
      have e2 : rd2 s = whB (w1S s) := by unfold rd2; rw [hW, if_pos hl2]
      have l2 : ((W.length : Int) == 2) = true := by simp; omega
      have l1 : ((W.length : Int) == 1) = false := by simp; omega
      have l3 : (1 : Int) < W.length := by omega
      have l4 : 1 < W.length := by omega
      have g1 : ∀ h2, (flatA (strsA W))[1]'h2 = .str (w1S s) := fun h2 => by
        have := hb; rw [List.getElem?_eq_getElem h2] at this; exact Option.some.inj this
      rw [eQ] at hfo hft ⊢
      rw [e2]
      have hnn : ((w0S s).size : Int) ≤ 0 ∨ ((0 : Int) < (w0S s).size ∧ (bAt (w0S s) 0 == 45) = false) := by
        unfold negS at hn
        by_cases hp : 0 < (w0S s).size
        · rw [decide_eq_true hp] at hn
          exact .inr ⟨by omega, by simpa using hn⟩
        · exact .inl (by omega)
      have i0 : (0 : Int) < (w0S s).size → bytA (w0S s) 0 = some (.int .u8 (bAt (w0S s) 0)) := fun hp => idx_at (w0S s) 0 (by omega)
      rcases hnn with n1 | ⟨n1, n2⟩
      · have n1' : ¬ (0 : Int) < (w0S s).size := by omega
        have n1n : ¬ 0 < (w0S s).size := by omega
        cases h1 : (whB (w0S s)) <;> rw [h1] at hwt
        · simp -dsimp -implicitDefEqProofs [c_spec_l02Read, r_spec_l02Read, n1', n1n, hsp, hleni, hlen, q0, g0, hwt, l1, l2, ha, hb, g1, l3, l4, h1]
        · cases h2 : whB (w1S s) <;> rw [h2] at ha
          · simp -dsimp -implicitDefEqProofs [c_spec_l02Read, r_spec_l02Read, n1', n1n, hsp, hleni, hlen, q0, g0, hwt, l1, l2, ha, hb, g1, l3, l4, h1, h2]
          · cases h3 : frOk (whV (w0S s)) (whV (w1S s)) <;> rw [h3] at hfo
            · simp -dsimp -implicitDefEqProofs [c_spec_l02Read, r_spec_l02Read, n1', n1n, hsp, hleni, hlen, q0, g0, hwt, l1, l2, ha, hb, g1, l3, l4, h1, h2, hfo, h3]
            · cases h4 : (fracT (whV (w0S s)) (whV (w1S s)) == s)
              · simp -dsimp -implicitDefEqProofs [c_spec_l02Read, r_spec_l02Read, n1', n1n, hsp, hleni, hlen, q0, g0, hwt, l1, l2, ha, hb, g1, l3, l4, h1, h2, hfo, h3, hft, h4]
              · simp -dsimp -implicitDefEqProofs [c_spec_l02Read, r_spec_l02Read, n1', n1n, hsp, hleni, hlen, q0, g0, hwt, l1, l2, ha, hb, g1, l3, l4, h1, h2, hfo, h3, hft, h4]
      · have i1 := i0 n1
        have n1n : 0 < (w0S s).size := by omega
        cases h1 : (whB (w0S s)) <;> rw [h1] at hwt
        · simp -dsimp -implicitDefEqProofs [c_spec_l02Read, r_spec_l02Read, n1, n1n, n2, i1, hsp, hleni, hlen, q0, g0, hwt, l1, l2, ha, hb, g1, l3, l4, h1]
        · cases h2 : whB (w1S s) <;> rw [h2] at ha
          · simp -dsimp -implicitDefEqProofs [c_spec_l02Read, r_spec_l02Read, n1, n1n, n2, i1, hsp, hleni, hlen, q0, g0, hwt, l1, l2, ha, hb, g1, l3, l4, h1, h2]
          · cases h3 : frOk (whV (w0S s)) (whV (w1S s)) <;> rw [h3] at hfo
            · simp -dsimp -implicitDefEqProofs [c_spec_l02Read, r_spec_l02Read, n1, n1n, n2, i1, hsp, hleni, hlen, q0, g0, hwt, l1, l2, ha, hb, g1, l3, l4, h1, h2, hfo, h3]
            · cases h4 : (fracT (whV (w0S s)) (whV (w1S s)) == s)
              · simp -dsimp -implicitDefEqProofs [c_spec_l02Read, r_spec_l02Read, n1, n1n, n2, i1, hsp, hleni, hlen, q0, g0, hwt, l1, l2, ha, hb, g1, l3, l4, h1, h2, hfo, h3, hft, h4]
              · simp -dsimp -implicitDefEqProofs [c_spec_l02Read, r_spec_l02Read, n1, n1n, n2, i1, hsp, hleni, hlen, q0, g0, hwt, l1, l2, ha, hb, g1, l3, l4, h1, h2, hfo, h3, hft, h4]
    · by_cases hl1 : W.length = 1
      · have eQ : rdQ s = 1 := by unfold rdQ; rw [hW, if_neg hl2]
        have e2 : rd2 s = true := by unfold rd2; rw [hW, if_neg hl2]; exact decide_eq_true hl1
        have l2 : ((W.length : Int) == 2) = false := by simp; omega
        have l1 : ((W.length : Int) == 1) = true := by simp; omega
        rw [eQ] at hfo hft ⊢
        rw [e2]
        have hnn : ((w0S s).size : Int) ≤ 0 ∨ ((0 : Int) < (w0S s).size ∧ (bAt (w0S s) 0 == 45) = false) := by
          unfold negS at hn
          by_cases hp : 0 < (w0S s).size
          · rw [decide_eq_true hp] at hn
            exact .inr ⟨by omega, by simpa using hn⟩
          · exact .inl (by omega)
        have i0 : (0 : Int) < (w0S s).size → bytA (w0S s) 0 = some (.int .u8 (bAt (w0S s) 0)) := fun hp => idx_at (w0S s) 0 (by omega)
        rcases hnn with n1 | ⟨n1, n2⟩
        · have n1' : ¬ (0 : Int) < (w0S s).size := by omega
          have n1n : ¬ 0 < (w0S s).size := by omega
          cases h1 : (whB (w0S s)) <;> rw [h1] at hwt
          · simp -dsimp -implicitDefEqProofs [c_spec_l02Read, r_spec_l02Read, n1', n1n, hsp, hleni, hlen, q0, g0, hwt, l1, l2, h1]
          · cases h3 : frOk (whV (w0S s)) (1) <;> rw [h3] at hfo
            · simp -dsimp -implicitDefEqProofs [c_spec_l02Read, r_spec_l02Read, n1', n1n, hsp, hleni, hlen, q0, g0, hwt, l1, l2, h1, hfo, h3]
            · cases h4 : (fracT (whV (w0S s)) (1) == s)
              · simp -dsimp -implicitDefEqProofs [c_spec_l02Read, r_spec_l02Read, n1', n1n, hsp, hleni, hlen, q0, g0, hwt, l1, l2, h1, hfo, h3, hft, h4]
              · simp -dsimp -implicitDefEqProofs [c_spec_l02Read, r_spec_l02Read, n1', n1n, hsp, hleni, hlen, q0, g0, hwt, l1, l2, h1, hfo, h3, hft, h4]
        · have i1 := i0 n1
          have n1n : 0 < (w0S s).size := by omega
          cases h1 : (whB (w0S s)) <;> rw [h1] at hwt
          · simp -dsimp -implicitDefEqProofs [c_spec_l02Read, r_spec_l02Read, n1, n1n, n2, i1, hsp, hleni, hlen, q0, g0, hwt, l1, l2, h1]
          · cases h3 : frOk (whV (w0S s)) (1) <;> rw [h3] at hfo
            · simp -dsimp -implicitDefEqProofs [c_spec_l02Read, r_spec_l02Read, n1, n1n, n2, i1, hsp, hleni, hlen, q0, g0, hwt, l1, l2, h1, hfo, h3]
            · cases h4 : (fracT (whV (w0S s)) (1) == s)
              · simp -dsimp -implicitDefEqProofs [c_spec_l02Read, r_spec_l02Read, n1, n1n, n2, i1, hsp, hleni, hlen, q0, g0, hwt, l1, l2, h1, hfo, h3, hft, h4]
              · simp -dsimp -implicitDefEqProofs [c_spec_l02Read, r_spec_l02Read, n1, n1n, n2, i1, hsp, hleni, hlen, q0, g0, hwt, l1, l2, h1, hfo, h3, hft, h4]
      · have eQ : rdQ s = 1 := by unfold rdQ; rw [hW, if_neg hl2]
        have e2 : rd2 s = false := by unfold rd2; rw [hW, if_neg hl2]; exact decide_eq_false hl1
        have l2 : ((W.length : Int) == 2) = false := by simp; omega
        have l1 : ((W.length : Int) == 1) = false := by simp; omega
        rw [eQ] at hfo hft ⊢
        rw [e2]
        have hnn : ((w0S s).size : Int) ≤ 0 ∨ ((0 : Int) < (w0S s).size ∧ (bAt (w0S s) 0 == 45) = false) := by
          unfold negS at hn
          by_cases hp : 0 < (w0S s).size
          · rw [decide_eq_true hp] at hn
            exact .inr ⟨by omega, by simpa using hn⟩
          · exact .inl (by omega)
        have i0 : (0 : Int) < (w0S s).size → bytA (w0S s) 0 = some (.int .u8 (bAt (w0S s) 0)) := fun hp => idx_at (w0S s) 0 (by omega)
        rcases hnn with n1 | ⟨n1, n2⟩
        · have n1' : ¬ (0 : Int) < (w0S s).size := by omega
          have n1n : ¬ 0 < (w0S s).size := by omega
          cases h1 : (whB (w0S s)) <;> rw [h1] at hwt
          · simp -dsimp -implicitDefEqProofs [c_spec_l02Read, r_spec_l02Read, n1', n1n, hsp, hleni, hlen, q0, g0, hwt, l1, l2, h1]
          · simp -dsimp -implicitDefEqProofs [c_spec_l02Read, r_spec_l02Read, n1', n1n, hsp, hleni, hlen, q0, g0, hwt, l1, l2, h1]
        · have i1 := i0 n1
          have n1n : 0 < (w0S s).size := by omega
          cases h1 : (whB (w0S s)) <;> rw [h1] at hwt
          · simp -dsimp -implicitDefEqProofs [c_spec_l02Read, r_spec_l02Read, n1, n1n, n2, i1, hsp, hleni, hlen, q0, g0, hwt, l1, l2, h1]
          · simp -dsimp -implicitDefEqProofs [c_spec_l02Read, r_spec_l02Read, n1, n1n, n2, i1, hsp, hleni, hlen, q0, g0, hwt, l1, l2, h1]
  · have eT : tpS s = (w0S s).extract 1 (w0S s).size := by unfold tpS; rw [hn]; rfl
    have eP : rdP s = -whV (tpS s) := by unfold rdP; rw [hn]; rfl
    have hn' := hn
    unfold negS at hn'
    simp only [Bool.and_eq_true, decide_eq_true_eq] at hn'
    have n1 : (0 : Int) < (w0S s).size := by omega
    have n1n : 0 < (w0S s).size := by omega
    have n2 := hn'.2
    have n3 : 1 ≤ (w0S s).size := by omega
    have i0 : bytA (w0S s) 0 = some (.int .u8 (bAt (w0S s) 0)) := idx_at (w0S s) 0 (by omega)
    rw [eP] at hfo hft ⊢
    rw [eT] at hwt hfo hft hwn ⊢
    by_cases hl2 : W.length = 2
    · obtain ⟨ha, hb⟩ := hw1 hl2
      have eQ : rdQ s = whV (w1S s) := by unfold rdQ; rw [hW, if_pos hl2]
      have e2 : rd2 s = whB (w1S s) := by unfold rd2; rw [hW, if_pos hl2]
      have l2 : ((W.length : Int) == 2) = true := by simp; omega
      have l1 : ((W.length : Int) == 1) = false := by simp; omega
      have l3 : (1 : Int) < W.length := by omega
      have l4 : 1 < W.length := by omega
      have g1 : ∀ h2, (flatA (strsA W))[1]'h2 = .str (w1S s) := fun h2 => by
        have := hb; rw [List.getElem?_eq_getElem h2] at this; exact Option.some.inj this
      rw [eQ] at hfo hft ⊢
      rw [e2]
      cases h1 : (whB ((w0S s).extract 1 (w0S s).size)) <;> rw [h1] at hwt
      · simp -dsimp -implicitDefEqProofs [c_spec_l02Read, r_spec_l02Read, hsp, hleni, hlen, q0, g0, hwt, l1, l2, n1, n1n, n2, n3, i0, hwn, ha, hb, g1, l3, l4, h1]
      · cases h2 : whB (w1S s) <;> rw [h2] at ha
        · simp -dsimp -implicitDefEqProofs [c_spec_l02Read, r_spec_l02Read, hsp, hleni, hlen, q0, g0, hwt, l1, l2, n1, n1n, n2, n3, i0, hwn, ha, hb, g1, l3, l4, h1, h2]
        · cases h3 : frOk (-whV ((w0S s).extract 1 (w0S s).size)) (whV (w1S s)) <;> rw [h3] at hfo
          · simp -dsimp -implicitDefEqProofs [c_spec_l02Read, r_spec_l02Read, hsp, hleni, hlen, q0, g0, hwt, l1, l2, n1, n1n, n2, n3, i0, hwn, ha, hb, g1, l3, l4, h1, h2, hfo, h3]
          · cases h4 : (fracT (-whV ((w0S s).extract 1 (w0S s).size)) (whV (w1S s)) == s)
            · simp -dsimp -implicitDefEqProofs [c_spec_l02Read, r_spec_l02Read, hsp, hleni, hlen, q0, g0, hwt, l1, l2, n1, n1n, n2, n3, i0, hwn, ha, hb, g1, l3, l4, h1, h2, hfo, h3, hft, h4]
            · simp -dsimp -implicitDefEqProofs [c_spec_l02Read, r_spec_l02Read, hsp, hleni, hlen, q0, g0, hwt, l1, l2, n1, n1n, n2, n3, i0, hwn, ha, hb, g1, l3, l4, h1, h2, hfo, h3, hft, h4]
    · by_cases hl1 : W.length = 1
      · have eQ : rdQ s = 1 := by unfold rdQ; rw [hW, if_neg hl2]
        have e2 : rd2 s = true := by unfold rd2; rw [hW, if_neg hl2]; exact decide_eq_true hl1
        have l2 : ((W.length : Int) == 2) = false := by simp; omega
        have l1 : ((W.length : Int) == 1) = true := by simp; omega
        rw [eQ] at hfo hft ⊢
        rw [e2]
        cases h1 : (whB ((w0S s).extract 1 (w0S s).size)) <;> rw [h1] at hwt
        · simp -dsimp -implicitDefEqProofs [c_spec_l02Read, r_spec_l02Read, hsp, hleni, hlen, q0, g0, hwt, l1, l2, n1, n1n, n2, n3, i0, hwn, h1]
        · cases h3 : frOk (-whV ((w0S s).extract 1 (w0S s).size)) (1) <;> rw [h3] at hfo
          · simp -dsimp -implicitDefEqProofs [c_spec_l02Read, r_spec_l02Read, hsp, hleni, hlen, q0, g0, hwt, l1, l2, n1, n1n, n2, n3, i0, hwn, h1, hfo, h3]
          · cases h4 : (fracT (-whV ((w0S s).extract 1 (w0S s).size)) (1) == s)
            · simp -dsimp -implicitDefEqProofs [c_spec_l02Read, r_spec_l02Read, hsp, hleni, hlen, q0, g0, hwt, l1, l2, n1, n1n, n2, n3, i0, hwn, h1, hfo, h3, hft, h4]
            · simp -dsimp -implicitDefEqProofs [c_spec_l02Read, r_spec_l02Read, hsp, hleni, hlen, q0, g0, hwt, l1, l2, n1, n1n, n2, n3, i0, hwn, h1, hfo, h3, hft, h4]
      · have eQ : rdQ s = 1 := by unfold rdQ; rw [hW, if_neg hl2]
        have e2 : rd2 s = false := by unfold rd2; rw [hW, if_neg hl2]; exact decide_eq_false hl1
        have l2 : ((W.length : Int) == 2) = false := by simp; omega
        have l1 : ((W.length : Int) == 1) = false := by simp; omega
        rw [eQ] at hfo hft ⊢
        rw [e2]
        cases h1 : (whB ((w0S s).extract 1 (w0S s).size)) <;> rw [h1] at hwt
        · simp -dsimp -implicitDefEqProofs [c_spec_l02Read, r_spec_l02Read, hsp, hleni, hlen, q0, g0, hwt, l1, l2, n1, n1n, n2, n3, i0, hwn, h1]
        · simp -dsimp -implicitDefEqProofs [c_spec_l02Read, r_spec_l02Read, hsp, hleni, hlen, q0, g0, hwt, l1, l2, n1, n1n, n2, n3, i0, hwn, h1]
end Go.Proofs.YtgiakpeneckgfaaGreatDoorAi
end

section
/- Plain law: both readings of fractions agree. -/
namespace Go.Proofs.YtgiakpeneckgfaaGreatDoorAi
open Go Go.RowKit
set_option linter.unusedVariables false
set_option linter.unusedSimpArgs false
set_option maxRecDepth 20000

/-! ### bytes of joined texts -/
theorem bAt_left (a b : ByteArray) (i : Nat) (h : i < a.size) : bAt (a ++ b) i = bAt a i := by
  have h' : i < a.data.toList.length := by rw [Array.length_toList]; exact h
  unfold bAt
  rw [ByteArray.data_append, Array.toList_append, List.getElem?_append_left h']
theorem bAt_right (a b : ByteArray) (i : Nat) : bAt (a ++ b) (a.size + i) = bAt b i := by
  have h' : a.data.toList.length = a.size := by rw [Array.length_toList]; rfl
  unfold bAt
  rw [ByteArray.data_append, Array.toList_append, List.getElem?_append_right (by omega), h', Nat.add_sub_cancel_left]
theorem nV_left (a b : ByteArray) : ∀ i, i ≤ a.size → nV (a ++ b) i = nV a i
  | 0, _ => rfl
  | i + 1, h => by rw [nV, nV, nV_left a b i (by omega), bAt_left a b i (by omega)]
theorem nOk_left (a b : ByteArray) : ∀ i, i ≤ a.size → nOk (a ++ b) i = nOk a i
  | 0, _ => rfl
  | i + 1, h => by rw [nOk, nOk, nOk_left a b i (by omega), bAt_left a b i (by omega)]
theorem ext_left (a b : ByteArray) : (a ++ b).extract 0 a.size = a := by
  apply ByteArray.ext
  apply Array.ext'
  have h' : a.data.toList.length = a.size := by rw [Array.length_toList]; rfl
  rw [ByteArray.data_extract, Array.toList_extract, ByteArray.data_append, Array.toList_append, ← h']
  simp [List.extract]
theorem ext_right (a b : ByteArray) : (a ++ b).extract a.size (a ++ b).size = b := by
  apply ByteArray.ext
  apply Array.ext'
  have h' : a.data.toList.length = a.size := by rw [Array.length_toList]; rfl
  have h2 : b.data.toList.length = b.size := by rw [Array.length_toList]; rfl
  rw [ByteArray.data_extract, Array.toList_extract, ByteArray.data_append, Array.toList_append, ByteArray.size_append, ← h', ← h2]
  simp [List.extract]
  exact List.take_of_length_le (by omega)
theorem ext_all (a : ByteArray) : a.extract 0 a.size = a := by
  have := ext_left a noB
  have e : a ++ noB = a := by apply ByteArray.ext; simp [noB]
  rw [e] at this
  exact this
/-! ### bytes of numerals -/
theorem bAt_one (d : Nat) (h : d < 10) : bAt ⟨[UInt8.ofNat (48 + d)].toArray⟩ 0 = 48 + d := by
  unfold bAt
  show ((UInt8.ofNat (48 + d)).toNat : Int) = _
  rw [dig_toNat h]; omega
theorem decB_facts (u : Nat) (hu : u < 4611686018427387904) : nV (decB u) (decB u).size = u ∧ nOk (decB u) (decB u).size = true ∧ 0 < (decB u).size ∧ (1 ≤ u → bAt (decB u) 0 ≠ 48) ∧ (10 ≤ u → 1 < (decB u).size) := by
  induction u using Nat.strongRecOn with
  | ind u ih =>
    by_cases h : u < 10
    · rw [decB_small (by omega) (by omega)]
      have hb := bAt_one u h
      have e : ((u : Int)).toNat = u := by omega
      rw [e]
      refine ⟨?_, ?_, ?_, ?_, by omega⟩
      · show 0 * 10 + (bAt _ 0 - 48) = _
        rw [hb]; omega
      · show (true && isDig (bAt _ 0)) = true
        rw [hb]; unfold isDig; simp; omega
      · show 0 < 1; omega
      · intro h1; rw [hb]; omega
    · obtain ⟨i1, i2, i3, i4, i5⟩ := ih (u / 10) (by omega) (by omega)
      have e1 : (u : Int).tdiv 10 = ((u / 10 : Nat) : Int) := by rw [Int.tdiv_eq_ediv_of_nonneg (by omega)]; omega
      have e2 : ((u : Int).tmod 10).toNat = u % 10 := by rw [Int.tmod_eq_emod_of_nonneg (by omega)]; omega
      rw [decB_step (by omega), e1, e2]
      generalize decB ((u / 10 : Nat) : Int) = A at *
      have hb := bAt_one (u % 10) (by omega)
      generalize hD : (⟨[UInt8.ofNat (48 + u % 10)].toArray⟩ : ByteArray) = D at *
      have hs : D.size = 1 := by rw [← hD]; rfl
      have hr := bAt_right A D 0
      rw [Nat.add_zero] at hr
      rw [ByteArray.size_append, hs]
      refine ⟨?_, ?_, by omega, ?_, by omega⟩
      · rw [nV, nV_left A D _ (Nat.le_refl _), i1, hr, hb]; omega
      · rw [nOk, nOk_left A D _ (Nat.le_refl _), i2, hr, hb]; unfold isDig; simp; omega
      · intro _
        rw [bAt_left A D 0 i3]
        exact i4 (by omega)
theorem decB_bill : decB 1000000000 = billB := by
  unfold decB Go.Lib.itoa billB
  simp [Go.Lib.decDigits]
theorem wh_dec (n : Int) (h0 : 0 ≤ n) (h1 : n ≤ 1000000000) : whV (decB n) = n ∧ whB (decB n) = true := by
  unfold whV whB
  by_cases hb : n = 1000000000
  · subst hb
    rw [decB_bill, beq_ba]; exact ⟨rfl, rfl⟩
  · have hf : (decB n == billB) = false := by
      rw [ba_eq]
      refine decide_eq_false fun e => hb ?_
      have h2 := (num_dec n (by omega) (by omega)).1
      have h3 := (num_dec 1000000000 (by omega) (by omega)).1
      rw [decB_bill] at h3
      rw [e, h3] at h2
      exact h2.symm
    rw [hf]
    obtain ⟨u, rfl⟩ := Int.eq_ofNat_of_zero_le h0
    obtain ⟨f1, f2, f3, f4, f5⟩ := decB_facts u (by omega)
    have hsz : (decB u).size ≤ 9 := by
      have h2 := nDig_le 8 u (by omega)
      have : (decB (u : Int)).size = Go.Lib.nDigits u := by
        unfold decB Go.Lib.itoa
        rw [if_neg (by omega), ba_size, List.size_toArray, Go.Lib.decDigits_length, Int.toNat_natCast]
      omega
    have hB : l01B (decB u) = true := by
      have a1 : decide ((decB (u : Int)).size < 1) = false := decide_eq_false (by omega)
      have a2 : decide (9 < (decB (u : Int)).size) = false := decide_eq_false (by omega)
      unfold l01B
      rw [f2, a1, a2]
      by_cases hu : 1 ≤ u
      · have := f4 hu
        have e : (bAt (decB u) 0 == 48) = false := by simpa using this
        rw [e]; rfl
      · have : u = 0 := by omega
        subst this
        have : (decB ((0 : Nat) : Int)).size = 1 := by rw [decB_small (by omega) (by omega)]; rfl
        rw [this]; simp
    refine ⟨?_, by rw [hB]; rfl⟩
    simp only [Bool.false_eq_true, if_false]
    unfold l01V
    rw [if_pos hB, f1]
theorem itoa_ne (n : Int) : ∀ c ∈ Go.Lib.itoa n, c ≠ 47 := by
  intro c hc e
  subst e
  unfold Go.Lib.itoa at hc
  split at hc
  · rcases List.mem_cons.1 hc with hc | hc
    · exact absurd hc (by decide)
    · have := (decD_dig _ _ hc).1
      exact absurd this (by decide)
  · have := (decD_dig _ _ hc).1
    exact absurd this (by decide)
theorem bAt_dec (n : Int) (i : Nat) (h : i < (decB n).size) : bAt (decB n) i ≠ 47 := by
  have h' : i < (Go.Lib.itoa n).length := by
    have : (decB n).size = (Go.Lib.itoa n).length := by unfold decB; rw [ba_size, List.size_toArray]
    omega
  unfold bAt decB
  simp only [List.getElem?_eq_getElem h', Option.getD_some]
  have hm := itoa_ne n _ (List.getElem_mem h')
  intro e
  apply hm
  apply UInt8.toNat_inj.1
  have : (Go.Lib.itoa n)[i].toNat = 47 := by omega
  rw [this]; rfl
end Go.Proofs.YtgiakpeneckgfaaGreatDoorAi
end

section
/- Plain law and law: ReadFraction. -/
namespace Go.Proofs.YtgiakpeneckgfaaGreatDoorAi
open Go Go.RowKit
set_option linter.unusedVariables false
set_option linter.unusedSimpArgs false
set_option maxRecDepth 20000

/-! ### the program's reading of a fraction's text -/
theorem index_none' : ∀ (a : List UInt8), (∀ c ∈ a, c ≠ 47) → Go.Lib.index a [47] = -1
  | [], _ => rfl
  | c :: a, h => by
    rw [Go.Lib.index, index_none' a fun d hd => h d (List.mem_cons_of_mem _ hd)]
    have hc := h c (List.mem_cons_self ..)
    have : List.isPrefixOf [47] (c :: a) = false := by
      simp [List.isPrefixOf]; exact fun e => hc e.symm
    rw [this]; rfl
theorem index_at' (b : List UInt8) : ∀ (a : List UInt8), (∀ c ∈ a, c ≠ 47) → Go.Lib.index (a ++ 47 :: b) [47] = a.length
  | [], _ => by
    rw [List.nil_append, Go.Lib.index]
    have : List.isPrefixOf [47] ((47 : UInt8) :: b) = true := by simp [List.isPrefixOf]
    rw [if_pos this]; rfl
  | c :: a, h => by
    rw [List.cons_append, Go.Lib.index, index_at' b a fun d hd => h d (List.mem_cons_of_mem _ hd)]
    have hc := h c (List.mem_cons_self ..)
    have : List.isPrefixOf [47] (c :: (a ++ 47 :: b)) = false := by
      simp [List.isPrefixOf]; exact fun e => hc e.symm
    rw [this]
    have h2 : ((a.length : Int) == -1) = false := by rw [beq_eq_false_iff_ne]; omega
    rw [h2]; simp
theorem ba_back (a : ByteArray) : (⟨a.data.toList.toArray⟩ : ByteArray) = a := by apply ByteArray.ext; simp
theorem ones_dec : decB 1 = onesB := by rw [decB_small (by omega) (by omega)]; rfl
theorem impl_reads {p q : Int} (h : frOk p q = true) : numV (topS (frT p q)) = p ∧ numV (botS (frT p q)) = q ∧ numB (topS (frT p q)) = true ∧ numB (botS (frT p q)) = true := by
  have hb := frOk_bd h
  have hp := num_dec p (by omega) (by omega)
  have hq := num_dec q (by omega) (by omega)
  have hl : ∀ n, (decB n).data.toList = Go.Lib.itoa n := fun n => by simp [decB]
  by_cases h1 : q = 1
  · subst h1
    have e : frT p 1 = decB p := by unfold frT; rw [if_pos rfl]
    have hc : Go.Lib.cut (decB p).data.toList slashB.data.toList = ((decB p).data.toList, [], false) := by
      unfold Go.Lib.cut
      rw [if_neg]
      rw [hl]
      show ¬ 0 ≤ Go.Lib.index (Go.Lib.itoa p) [47]
      rw [index_none' _ (itoa_ne p)]; omega
    have eA : topS (frT p 1) = decB p := by unfold topS cutA; rw [e, hc]
    have eI : cutI (frT p 1) slashB = false := by unfold cutI; rw [e, hc]
    have eB : botS (frT p 1) = decB 1 := by unfold botS; rw [eI, ones_dec]; rfl
    rw [eA, eB]
    exact ⟨hp.1, hq.1, hp.2, hq.2⟩
  · have e : frT p q = decB p ++ slashB ++ decB q := by unfold frT; rw [if_neg h1]
    have el : (frT p q).data.toList = Go.Lib.itoa p ++ 47 :: Go.Lib.itoa q := by
      rw [e, ByteArray.data_append, ByteArray.data_append, Array.toList_append, Array.toList_append, hl, hl]
      simp [slashB]
    have hc : Go.Lib.cut (frT p q).data.toList slashB.data.toList = (Go.Lib.itoa p, Go.Lib.itoa q, true) := by
      unfold Go.Lib.cut
      have hi : Go.Lib.index (frT p q).data.toList slashB.data.toList = (Go.Lib.itoa p).length := by
        rw [el]; exact index_at' _ _ (itoa_ne p)
      rw [hi, if_pos (by omega), el]
      have hs : slashB.data.toList.length = 1 := rfl
      rw [hs, Int.toNat_natCast]
      simp
    have eA : topS (frT p q) = decB p := by unfold topS cutA; rw [hc]; rfl
    have eI : cutI (frT p q) slashB = true := by unfold cutI; rw [hc]
    have eB : botS (frT p q) = decB q := by unfold botS; rw [if_pos eI]; unfold cutB; rw [hc]; rfl
    rw [eA, eB]
    exact ⟨hp.1, hq.1, hp.2, hq.2⟩

/-! ### the reference's reading -/
theorem splF_skip (s : ByteArray) (c : Int) (k f : Nat) (out : List ByteArray) : ∀ (m i : Nat), (∀ j, i ≤ j → j < i + m → bAt s j ≠ c) → splF s c (m + k) i f out = splF s c k (i + m) f out
  | 0, i, _ => by rw [Nat.zero_add, Nat.add_zero]
  | m + 1, i, h => by
    rw [show m + 1 + k = (m + k) + 1 by omega, splF, if_neg (h i (by omega) (by omega)), splF_skip s c k f out m (i + 1) (fun j h1 h2 => h j (by omega) (by omega)), show i + 1 + m = i + (m + 1) by omega]
theorem split_one (n : Int) : splitL (decB n) 47 = [decB n] := by
  unfold splitL
  have := splF_skip (decB n) 47 0 0 [] (decB n).size 0 (fun j _ h => bAt_dec n j (by omega))
  rw [Nat.add_zero, Nat.zero_add] at this
  rw [this, splF, ext_all]; rfl
theorem split_two (p q : Int) : splitL (decB p ++ slashB ++ decB q) 47 = [decB p, decB q] := by
  unfold splitL
  have hs : slashB.size = 1 := rfl
  have e1 : decB p ++ slashB ++ decB q = decB p ++ (slashB ++ decB q) := ByteArray.append_assoc ..
  have hsz : (decB p ++ slashB ++ decB q).size = (decB p).size + (1 + (decB q).size) := by rw [e1, ByteArray.size_append, ByteArray.size_append, hs]
  have hA : ∀ j, j < (decB p).size → bAt (decB p ++ slashB ++ decB q) j = bAt (decB p) j := fun j hj => by rw [e1, bAt_left _ _ _ hj]
  have hM : bAt (decB p ++ slashB ++ decB q) (decB p).size = 47 := by
    have := bAt_right (decB p) (slashB ++ decB q) 0
    rw [Nat.add_zero] at this
    rw [e1, this, bAt_left slashB (decB q) 0 (by rw [hs]; omega)]; rfl
  have hB : ∀ j, bAt (decB p ++ slashB ++ decB q) ((decB p).size + 1 + j) = bAt (decB q) j := fun j => by
    have := bAt_right (decB p ++ slashB) (decB q) j
    rw [ByteArray.size_append, hs] at this
    exact this
  have eL : (decB p ++ slashB ++ decB q).extract 0 (decB p).size = decB p := by rw [e1]; exact ext_left _ _
  have eR : (decB p ++ slashB ++ decB q).extract ((decB p).size + 1) (decB p ++ slashB ++ decB q).size = decB q := by
    have := ext_right (decB p ++ slashB) (decB q)
    rw [ByteArray.size_append (a := decB p), hs] at this
    exact this
  generalize decB p ++ slashB ++ decB q = s at *
  have s1 := splF_skip s 47 (1 + (decB q).size) 0 [] (decB p).size 0 (fun j _ h => by rw [hA j (by omega)]; exact bAt_dec p j (by omega))
  rw [Nat.zero_add] at s1
  rw [hsz, s1, show 1 + (decB q).size = (decB q).size + 1 by omega, splF, if_pos hM, eL]
  have s2 := splF_skip s 47 0 ((decB p).size + 1) ([] ++ [decB p]) (decB q).size ((decB p).size + 1) (fun j h1 h2 => by
    have := hB (j - ((decB p).size + 1))
    rw [show (decB p).size + 1 + (j - ((decB p).size + 1)) = j by omega] at this
    rw [this]; exact bAt_dec q _ (by omega))
  rw [Nat.add_zero] at s2
  rw [s2, splF, eR]; rfl
theorem neg_dec (n : Int) (hn : -1000000000 ≤ n ∧ n ≤ 1000000000) : (decide (0 < (decB n).size) && (bAt (decB n) 0 == 45)) = decide (n < 0) := by
  by_cases h : n < 0
  · rw [decide_eq_true h, decB_neg h]
    have h1 : bAt ((⟨[45].toArray⟩ : ByteArray) ++ decB (n.natAbs : Int)) 0 = 45 := by rw [bAt_left _ _ _ (by show 0 < 1; omega)]; rfl
    have h2 : 0 < ((⟨[45].toArray⟩ : ByteArray) ++ decB (n.natAbs : Int)).size := by rw [ByteArray.size_append, ba_size]; show 0 < 1 + _; omega
    rw [h1, decide_eq_true h2]; rfl
  · obtain ⟨u, rfl⟩ := Int.eq_ofNat_of_zero_le (show 0 ≤ n by omega)
    obtain ⟨_, f2, f3, _, _⟩ := decB_facts u (by omega)
    have h3 : isDig (bAt (decB (u : Int)) 0) = true := by
      cases hd : isDig (bAt (decB (u : Int)) 0) with
      | true => rfl
      | false => rw [nOk_false hd _ f3] at f2; cases f2
    unfold isDig at h3
    simp only [Bool.and_eq_true, decide_eq_true_eq] at h3
    have h4 : (bAt (decB (u : Int)) 0 == 45) = false := by rw [beq_eq_false_iff_ne]; omega
    rw [h4, decide_eq_false h]; simp
theorem spec_reads {p q : Int} (h : frOk p q = true) : rdP (frT p q) = p ∧ rdQ (frT p q) = q ∧ whB (tpS (frT p q)) = true ∧ rd2 (frT p q) = true := by
  have hb := frOk_bd h
  have hw0 : w0S (frT p q) = decB p := by
    unfold w0S frT
    split
    · rw [split_one]; rfl
    · rw [split_two]; rfl
  have hneg : negS (frT p q) = decide (p < 0) := by unfold negS; rw [hw0]; exact neg_dec p hb.1
  have htop : tpS (frT p q) = decB (p.natAbs : Int) := by
    unfold tpS
    rw [hneg, hw0]
    by_cases hp : p < 0
    · rw [if_pos (decide_eq_true hp), decB_neg hp]
      exact ext_right ⟨[45].toArray⟩ _
    · rw [if_neg (by simpa using hp), show ((p.natAbs : Nat) : Int) = p by omega]
  have hwt := wh_dec (p.natAbs : Int) (by omega) (by omega)
  have hP : rdP (frT p q) = p := by
    unfold rdP
    rw [hneg, htop, hwt.1]
    by_cases hp : p < 0
    · rw [if_pos (decide_eq_true hp)]; omega
    · rw [if_neg (by simpa using hp)]; omega
  have hwq := wh_dec q (by omega) (by omega)
  refine ⟨hP, ?_, by rw [htop]; exact hwt.2, ?_⟩
  · unfold rdQ w1S
    by_cases h1 : q = 1
    · subst h1
      have e : frT p 1 = decB p := by unfold frT; rw [if_pos rfl]
      rw [e, split_one]; rfl
    · have e : frT p q = decB p ++ slashB ++ decB q := by unfold frT; rw [if_neg h1]
      rw [e, split_two]
      exact hwq.1
  · unfold rd2 w1S
    by_cases h1 : q = 1
    · subst h1
      have e : frT p 1 = decB p := by unfold frT; rw [if_pos rfl]
      rw [e, split_one]; rfl
    · have e : frT p q = decB p ++ slashB ++ decB q := by unfold frT; rw [if_neg h1]
      rw [e, split_two]
      exact hwq.2
end Go.Proofs.YtgiakpeneckgfaaGreatDoorAi
end

section
/- MADE BY PROGRAM (wip/tools/gen.py): the abstract code of functions. -/
namespace Go.Proofs.YtgiakpeneckgfaaGreatDoorAi
open Go AC AOp Opd
set_option linter.unusedVariables false
set_option maxRecDepth 100000
def c_impl_isPair : AC := seq (reg [⟨(some 6), mv (c (.bool false)), none⟩]) (seq (reg [⟨(some 7), mv (t 1), none⟩, ⟨(some 8), mv (t 0), none⟩, ⟨(some 9), bin .sub (t 8) (c (.int .i64 1)), none⟩, ⟨(some 10), callq (c (.fn 80 [])) [t 7, c (.int .i64 0), t 9], none⟩, ⟨(some 11), mv (t 10), none⟩, ⟨(some 12), mv (t 2), some (11, true)⟩, ⟨(some 13), mv (t 0), some (11, true)⟩, ⟨(some 14), bin .sub (t 13) (c (.int .i64 1)), some (11, true)⟩, ⟨(some 15), callq (c (.fn 80 [])) [t 12, c (.int .i64 0), t 14], some (11, true)⟩, ⟨(some 16), pick (t 11) (t 15) (c (.bool false)), none⟩, ⟨(some 17), mv (t 16), none⟩, ⟨(some 18), mv (t 1), some (17, true)⟩, ⟨(some 19), mv (t 2), some (17, true)⟩, ⟨(some 20), bin .neq (t 18) (t 19), some (17, true)⟩, ⟨(some 21), pick (t 17) (t 20) (c (.bool false)), none⟩, ⟨(some 6), mv (t 21), none⟩]) (ret))
def r_impl_isPair : List ARes := [.tmp 6]
theorem k_impl_isPair : acLin Go.Proofs.Tryz.prog 52 3 (inQ [80] []) [] = some (c_impl_isPair, r_impl_isPair) := by kernel_rfl
def c_impl_ReadGraph : AC := seq (reg [⟨(some 2), alloc [.int .i64 0, .int .u32 0], none⟩, ⟨(some 3), mv (c (.int .i64 0)), none⟩]) (seq (reg [⟨(some 20), mv (t 0), none⟩, ⟨(some 21), callq (c (.fn 49 [])) [t 20, c (.str ⟨#[103, 114, 97, 112, 104, 32]⟩)], none⟩, ⟨(some 19), mv (t 21), none⟩, ⟨(some 22), ext (t 19) 0, none⟩, ⟨(some 23), ext (t 19) 1, none⟩, ⟨(some 4), mv (t 22), none⟩, ⟨(some 5), mv (t 23), none⟩]) (seq (reg [⟨(some 24), mv (t 4), none⟩, ⟨(some 25), calle (c (.fn 50 [])) [t 24, c (.str ⟨#[32]⟩)] [], none⟩, ⟨(some 6), mv (t 25), none⟩]) (seq (reg [⟨(some 27), mv (t 6), none⟩, ⟨(some 28), iad 1 (t 27) (c (.int .i64 0)), none⟩, ⟨(some 29), ld (t 28) 1 false, none⟩, ⟨(some 30), callq (c (.fn 44 [])) [t 29], none⟩, ⟨(some 26), mv (t 30), none⟩, ⟨(some 31), ext (t 26) 0, none⟩, ⟨(some 32), ext (t 26) 1, none⟩, ⟨(some 7), mv (t 31), none⟩, ⟨(some 8), mv (t 32), none⟩]) (seq (seq (reg [⟨(some 33), mv (t 5), none⟩, ⟨(some 34), un .not (t 33), none⟩, ⟨(some 35), mv (t 34), none⟩, ⟨(some 36), mv (t 8), some (35, false)⟩, ⟨(some 37), un .not (t 36), some (35, false)⟩, ⟨(some 38), pick (t 35) (c (.bool true)) (t 37), none⟩, ⟨(some 39), mv (t 38), none⟩, ⟨(some 40), mv (t 7), some (39, false)⟩, ⟨(some 41), callq (c (.fn 51 [])) [t 40], some (39, false)⟩, ⟨(some 42), un .not (t 41), some (39, false)⟩, ⟨(some 43), pick (t 39) (c (.bool true)) (t 42), none⟩]) (cond (t 43) (seq (reg [⟨(some 44), bld [.int .i64 0, .int .u32 0] [], none⟩, ⟨none, st (t 2) 2 (t 44), none⟩, ⟨(some 3), mv (c (.int .i64 5)), none⟩]) (ret)) (skip))) (seq (reg [⟨(some 45), mv (t 7), none⟩, ⟨(some 46), bld [.int .i64 0, .int .u32 0] [(0, 1, t 45)], none⟩, ⟨(some 9), alloc [.int .i64 0, .int .u32 0], none⟩, ⟨none, st (t 9) 2 (t 46), none⟩]) (seq (seq (reg [⟨(some 47), mv (t 6), none⟩, ⟨(some 48), sli 1 (t 47) (some (c (.int .i64 1))) none none, none⟩, ⟨(some 49), len (t 48), none⟩, ⟨(some 50), mv (c (.int .i64 0)), none⟩]) (block 0 (loop (seq (reg [⟨(some 51), bin .lss (t 50) (t 49), none⟩]) (seq (cond (t 51) (skip) (exit 0)) (seq (block 1 (seq (reg [⟨(some 52), iad 1 (t 48) (t 50), none⟩, ⟨(some 53), ld (t 52) 1 false, none⟩, ⟨(some 11), mv (t 53), none⟩]) (seq (reg [⟨(some 55), mv (t 11), none⟩, ⟨(some 56), callq (c (.fn 17 [])) [t 55, c (.str ⟨#[45]⟩)], none⟩, ⟨(some 54), mv (t 56), none⟩, ⟨(some 57), ext (t 54) 0, none⟩, ⟨(some 58), ext (t 54) 1, none⟩, ⟨(some 59), ext (t 54) 2, none⟩, ⟨(some 12), mv (t 57), none⟩, ⟨(some 13), mv (t 58), none⟩, ⟨(some 14), mv (t 59), none⟩]) (seq (reg [⟨(some 61), mv (t 12), none⟩, ⟨(some 62), callq (c (.fn 44 [])) [t 61], none⟩, ⟨(some 60), mv (t 62), none⟩, ⟨(some 63), ext (t 60) 0, none⟩, ⟨(some 64), ext (t 60) 1, none⟩, ⟨(some 15), mv (t 63), none⟩, ⟨(some 16), mv (t 64), none⟩]) (seq (reg [⟨(some 66), mv (t 13), none⟩, ⟨(some 67), callq (c (.fn 44 [])) [t 66], none⟩, ⟨(some 65), mv (t 67), none⟩, ⟨(some 68), ext (t 65) 0, none⟩, ⟨(some 69), ext (t 65) 1, none⟩, ⟨(some 17), mv (t 68), none⟩, ⟨(some 18), mv (t 69), none⟩]) (seq (seq (reg [⟨(some 70), mv (t 16), none⟩, ⟨(some 71), un .not (t 70), none⟩, ⟨(some 72), mv (t 71), none⟩, ⟨(some 73), mv (t 18), some (72, false)⟩, ⟨(some 74), un .not (t 73), some (72, false)⟩, ⟨(some 75), pick (t 72) (c (.bool true)) (t 74), none⟩, ⟨(some 76), mv (t 75), none⟩, ⟨(some 77), mv (t 7), some (76, false)⟩, ⟨(some 78), mv (t 15), some (76, false)⟩, ⟨(some 79), mv (t 17), some (76, false)⟩, ⟨(some 80), callq (c (.fn 52 [])) [t 77, t 78, t 79], some (76, false)⟩, ⟨(some 81), un .not (t 80), some (76, false)⟩, ⟨(some 82), pick (t 76) (c (.bool true)) (t 81), none⟩]) (cond (t 82) (seq (reg [⟨(some 83), bld [.int .i64 0, .int .u32 0] [], none⟩, ⟨none, st (t 2) 2 (t 83), none⟩, ⟨(some 3), mv (c (.int .i64 5)), none⟩]) (ret)) (skip))) (reg [⟨(some 84), fad (t 9) 1, none⟩, ⟨(some 85), ld (t 84) 1 false, none⟩, ⟨(some 86), mv (t 15), none⟩, ⟨(some 87), mv (t 17), none⟩, ⟨(some 88), callq (c (.fn 53 [])) [t 86, t 87], none⟩, ⟨(some 89), bin .or (t 85) (t 88), none⟩, ⟨(some 90), fad (t 9) 1, none⟩, ⟨none, st (t 90) 1 (t 89), none⟩]))))))) (reg [⟨(some 91), bin .add (t 50) (c (.int .i64 1)), none⟩, ⟨(some 50), mv (t 91), none⟩]))))))) (seq (seq (reg [⟨(some 92), ld (t 9) 2 true, none⟩, ⟨(some 93), callq (c (.fn 54 [])) [t 92], none⟩, ⟨(some 94), mv (t 0), none⟩, ⟨(some 95), bin .neq (t 93) (t 94), none⟩]) (cond (t 95) (seq (reg [⟨(some 96), bld [.int .i64 0, .int .u32 0] [], none⟩, ⟨none, st (t 2) 2 (t 96), none⟩, ⟨(some 3), mv (c (.int .i64 5)), none⟩]) (ret)) (skip))) (seq (reg [⟨(some 97), ld (t 9) 2 true, none⟩, ⟨none, st (t 2) 2 (t 97), none⟩, ⟨(some 3), mv (c (.int .i64 0)), none⟩]) (ret)))))))))
def r_impl_ReadGraph : List ARes := [.cell 2 2 true, .tmp 3]
theorem k_impl_ReadGraph : acLin Go.Proofs.Tryz.prog 21 1 (inQ [17, 44, 49, 51, 52, 53, 54] [50]) [⟨false, none, [], [], none⟩, ⟨false, none, [], [], none⟩, ⟨false, none, [], [], none⟩, ⟨false, none, [], [], none⟩, ⟨false, none, [], [], none⟩, ⟨false, none, [], [], none⟩, ⟨false, none, [], [], none⟩, ⟨false, none, [], [], none⟩, ⟨false, none, [], [], none⟩, ⟨false, none, [], [], none⟩, ⟨false, none, [], [], none⟩, ⟨false, none, [], [], none⟩, ⟨false, none, [], [], none⟩, ⟨false, none, [], [], none⟩, ⟨false, none, [], [], none⟩, ⟨false, none, [], [], none⟩, ⟨false, none, [], [], none⟩, ⟨false, none, [], [], none⟩, ⟨false, some [0, 1, 2, 3, 4, 5, 6, 7], [], [], none⟩] = some (c_impl_ReadGraph, r_impl_ReadGraph) := by kernel_rfl
def c_spec_l01Pair : AC := seq (reg [⟨(some 6), mv (c (.bool false)), none⟩]) (seq (reg [⟨(some 7), mv (t 1), none⟩, ⟨(some 8), mv (t 0), none⟩, ⟨(some 9), bin .sub (t 8) (c (.int .i64 1)), none⟩, ⟨(some 10), callq (c (.fn 63 [])) [t 7, c (.int .i64 0), t 9], none⟩, ⟨(some 11), mv (t 10), none⟩, ⟨(some 12), mv (t 2), some (11, true)⟩, ⟨(some 13), mv (t 0), some (11, true)⟩, ⟨(some 14), bin .sub (t 13) (c (.int .i64 1)), some (11, true)⟩, ⟨(some 15), callq (c (.fn 63 [])) [t 12, c (.int .i64 0), t 14], some (11, true)⟩, ⟨(some 16), pick (t 11) (t 15) (c (.bool false)), none⟩, ⟨(some 17), mv (t 16), none⟩, ⟨(some 18), mv (t 1), some (17, true)⟩, ⟨(some 19), mv (t 2), some (17, true)⟩, ⟨(some 20), bin .neq (t 18) (t 19), some (17, true)⟩, ⟨(some 21), pick (t 17) (t 20) (c (.bool false)), none⟩, ⟨(some 6), mv (t 21), none⟩]) (ret))
def r_spec_l01Pair : List ARes := [.tmp 6]
theorem k_spec_l01Pair : acLin Go.Proofs.Tryz.prog 36 3 (inQ [63] []) [] = some (c_spec_l01Pair, r_spec_l01Pair) := by kernel_rfl
def c_spec_ReadGraph : AC := seq (reg [⟨(some 2), alloc [.int .i64 0, .int .u32 0], none⟩, ⟨(some 3), mv (c (.int .i64 0)), none⟩]) (seq (reg [⟨(some 14), mv (t 0), none⟩, ⟨(some 15), calle (c (.fn 9 [])) [t 14, c (.int .u8 32)] [], none⟩, ⟨(some 4), mv (t 15), none⟩]) (seq (seq (reg [⟨(some 16), mv (t 4), none⟩, ⟨(some 17), len (t 16), none⟩, ⟨(some 18), bin .lss (t 17) (c (.int .i64 2)), none⟩, ⟨(some 19), mv (t 18), none⟩, ⟨(some 20), mv (t 4), some (19, false)⟩, ⟨(some 21), iad 1 (t 20) (c (.int .i64 0)), some (19, false)⟩, ⟨(some 22), ld (t 21) 1 false, some (19, false)⟩, ⟨(some 23), bin .neq (t 22) (c (.str ⟨#[103, 114, 97, 112, 104]⟩)), some (19, false)⟩, ⟨(some 24), pick (t 19) (c (.bool true)) (t 23), none⟩]) (cond (t 24) (seq (reg [⟨(some 25), bld [.int .i64 0, .int .u32 0] [], none⟩, ⟨none, st (t 2) 2 (t 25), none⟩, ⟨(some 3), mv (c (.int .i64 5)), none⟩]) (ret)) (skip))) (seq (reg [⟨(some 27), mv (t 4), none⟩, ⟨(some 28), iad 1 (t 27) (c (.int .i64 1)), none⟩, ⟨(some 29), ld (t 28) 1 false, none⟩, ⟨(some 30), callq (c (.fn 35 [])) [t 29], none⟩, ⟨(some 26), mv (t 30), none⟩, ⟨(some 31), ext (t 26) 0, none⟩, ⟨(some 32), ext (t 26) 1, none⟩, ⟨(some 5), mv (t 31), none⟩, ⟨(some 6), mv (t 32), none⟩]) (seq (seq (reg [⟨(some 33), mv (t 6), none⟩, ⟨(some 34), un .not (t 33), none⟩, ⟨(some 35), mv (t 34), none⟩, ⟨(some 36), mv (t 5), some (35, false)⟩, ⟨(some 37), bin .gtr (t 36) (c (.int .i64 5)), some (35, false)⟩, ⟨(some 38), pick (t 35) (c (.bool true)) (t 37), none⟩]) (cond (t 38) (seq (reg [⟨(some 39), bld [.int .i64 0, .int .u32 0] [], none⟩, ⟨none, st (t 2) 2 (t 39), none⟩, ⟨(some 3), mv (c (.int .i64 5)), none⟩]) (ret)) (skip))) (seq (reg [⟨(some 40), mv (t 5), none⟩, ⟨(some 41), bld [.int .i64 0, .int .u32 0] [(0, 1, t 40)], none⟩, ⟨(some 7), alloc [.int .i64 0, .int .u32 0], none⟩, ⟨none, st (t 7) 2 (t 41), none⟩]) (seq (seq (reg [⟨(some 8), mv (c (.int .i64 2)), none⟩]) (block 0 (loop (seq (seq (reg [⟨(some 42), mv (t 8), none⟩, ⟨(some 43), mv (t 4), none⟩, ⟨(some 44), len (t 43), none⟩, ⟨(some 45), bin .lss (t 42) (t 44), none⟩]) (cond (t 45) (skip) (exit 0))) (seq (block 1 (seq (reg [⟨(some 48), mv (t 4), none⟩, ⟨(some 49), mv (t 8), none⟩, ⟨(some 50), iad 1 (t 48) (t 49), none⟩, ⟨(some 51), ld (t 50) 1 false, none⟩, ⟨(some 52), calle (c (.fn 9 [])) [t 51, c (.int .u8 45)] [], none⟩, ⟨(some 9), mv (t 52), none⟩]) (seq (seq (reg [⟨(some 53), mv (t 9), none⟩, ⟨(some 54), len (t 53), none⟩, ⟨(some 55), bin .neq (t 54) (c (.int .i64 2)), none⟩]) (cond (t 55) (seq (reg [⟨(some 56), bld [.int .i64 0, .int .u32 0] [], none⟩, ⟨none, st (t 2) 2 (t 56), none⟩, ⟨(some 3), mv (c (.int .i64 5)), none⟩]) (ret)) (skip))) (seq (reg [⟨(some 58), mv (t 9), none⟩, ⟨(some 59), iad 1 (t 58) (c (.int .i64 0)), none⟩, ⟨(some 60), ld (t 59) 1 false, none⟩, ⟨(some 61), callq (c (.fn 35 [])) [t 60], none⟩, ⟨(some 57), mv (t 61), none⟩, ⟨(some 62), ext (t 57) 0, none⟩, ⟨(some 63), ext (t 57) 1, none⟩, ⟨(some 10), mv (t 62), none⟩, ⟨(some 11), mv (t 63), none⟩]) (seq (reg [⟨(some 65), mv (t 9), none⟩, ⟨(some 66), iad 1 (t 65) (c (.int .i64 1)), none⟩, ⟨(some 67), ld (t 66) 1 false, none⟩, ⟨(some 68), callq (c (.fn 35 [])) [t 67], none⟩, ⟨(some 64), mv (t 68), none⟩, ⟨(some 69), ext (t 64) 0, none⟩, ⟨(some 70), ext (t 64) 1, none⟩, ⟨(some 12), mv (t 69), none⟩, ⟨(some 13), mv (t 70), none⟩]) (seq (seq (reg [⟨(some 71), mv (t 11), none⟩, ⟨(some 72), un .not (t 71), none⟩, ⟨(some 73), mv (t 72), none⟩, ⟨(some 74), mv (t 13), some (73, false)⟩, ⟨(some 75), un .not (t 74), some (73, false)⟩, ⟨(some 76), pick (t 73) (c (.bool true)) (t 75), none⟩, ⟨(some 77), mv (t 76), none⟩, ⟨(some 78), mv (t 5), some (77, false)⟩, ⟨(some 79), mv (t 10), some (77, false)⟩, ⟨(some 80), mv (t 12), some (77, false)⟩, ⟨(some 81), callq (c (.fn 36 [])) [t 78, t 79, t 80], some (77, false)⟩, ⟨(some 82), un .not (t 81), some (77, false)⟩, ⟨(some 83), pick (t 77) (c (.bool true)) (t 82), none⟩]) (cond (t 83) (seq (reg [⟨(some 84), bld [.int .i64 0, .int .u32 0] [], none⟩, ⟨none, st (t 2) 2 (t 84), none⟩, ⟨(some 3), mv (c (.int .i64 5)), none⟩]) (ret)) (skip))) (reg [⟨(some 85), fad (t 7) 1, none⟩, ⟨(some 86), ld (t 85) 1 false, none⟩, ⟨(some 87), mv (t 10), none⟩, ⟨(some 88), mv (t 12), none⟩, ⟨(some 89), callq (c (.fn 37 [])) [t 87, t 88], none⟩, ⟨(some 90), bin .or (t 86) (t 89), none⟩, ⟨(some 91), fad (t 7) 1, none⟩, ⟨none, st (t 91) 1 (t 90), none⟩]))))))) (reg [⟨(some 46), mv (t 8), none⟩, ⟨(some 47), bin .add (t 46) (c (.int .i64 1)), none⟩, ⟨(some 8), mv (t 47), none⟩])))))) (seq (seq (reg [⟨(some 92), ld (t 7) 2 true, none⟩, ⟨(some 93), callq (c (.fn 38 [])) [t 92], none⟩, ⟨(some 94), mv (t 0), none⟩, ⟨(some 95), bin .neq (t 93) (t 94), none⟩]) (cond (t 95) (seq (reg [⟨(some 96), bld [.int .i64 0, .int .u32 0] [], none⟩, ⟨none, st (t 2) 2 (t 96), none⟩, ⟨(some 3), mv (c (.int .i64 5)), none⟩]) (ret)) (skip))) (seq (reg [⟨(some 97), ld (t 7) 2 true, none⟩, ⟨none, st (t 2) 2 (t 97), none⟩, ⟨(some 3), mv (c (.int .i64 0)), none⟩]) (ret)))))))))
def r_spec_ReadGraph : List ARes := [.cell 2 2 true, .tmp 3]
theorem k_spec_ReadGraph : acLin Go.Proofs.Tryz.prog 12 1 (inQ [35, 36, 37, 38] [9]) [⟨false, none, [], [], none⟩, ⟨false, none, [], [], none⟩, ⟨false, none, [], [], none⟩, ⟨false, none, [], [], none⟩, ⟨false, none, [], [], none⟩, ⟨false, none, [], [], none⟩, ⟨false, none, [], [], none⟩, ⟨false, none, [], [], none⟩, ⟨false, none, [], [], none⟩, ⟨false, none, [], [], none⟩, ⟨false, none, [], [], none⟩, ⟨false, none, [], [], none⟩, ⟨false, none, [], [], none⟩, ⟨false, none, [], [], none⟩, ⟨false, none, [], [], none⟩, ⟨false, none, [], [], none⟩, ⟨false, none, [], [], none⟩, ⟨false, none, [], [], none⟩, ⟨false, none, [], [], none⟩, ⟨false, none, [], [], none⟩, ⟨false, none, [], [], none⟩, ⟨false, none, [], [], none⟩, ⟨false, some [0, 1, 2, 3, 4, 5, 6, 7], [], [], none⟩] = some (c_spec_ReadGraph, r_spec_ReadGraph) := by kernel_rfl
end Go.Proofs.YtgiakpeneckgfaaGreatDoorAi
end

section
/- Contracts: strings.Split, strings.CutPrefix. Plain law: pieces of joined texts. -/
namespace Go.Proofs.YtgiakpeneckgfaaGreatDoorAi
open Go Go.RowKit
set_option linter.unusedVariables false
set_option linter.unusedSimpArgs false
set_option maxRecDepth 20000

def piecesB (s sep : ByteArray) : List ByteArray := Go.Lib.splitB sep 0 (Go.Lib.countB s sep) s
theorem pieces_len (s sep : ByteArray) (h : 1 ≤ sep.size) : (piecesB s sep).length = Go.Lib.countB s sep + 1 := Go.Lib.splitB_all sep h 0 _ s rfl
theorem count_le (s sep : ByteArray) (h : 1 ≤ sep.size) : Go.Lib.countB s sep ≤ s.size := Go.Lib.countB_le sep h s.size s (Nat.le_refl _)
noncomputable def sp_pieces : List AV → Option (AV × List (Option (List AV))) := pf (ι := (ByteArray) × (ByteArray)) (α := AV × List (Option (List AV))) (fun ⟨s, sep⟩ => s.size ≤ 1048576 ∧ sep.size = 1) (fun ⟨s, sep⟩ => [.str s, .str sep]) (fun ⟨s, sep⟩ => (.ref 0 1 0 (piecesB s sep).length .tight, [some (flatA (strsA (piecesB s sep)))]))
theorem sp_pieces_eq (s sep : ByteArray) (h : s.size ≤ 1048576 ∧ sep.size = 1) : sp_pieces [.str s, .str sep] = some ((.ref 0 1 0 (piecesB s sep).length .tight, [some (flatA (strsA (piecesB s sep)))])) := by
  unfold sp_pieces
  exact pf_eq (ι := (ByteArray) × (ByteArray)) (α := AV × List (Option (List AV))) (s, sep) h (by rintro ⟨s', sep'⟩ _ e; simp_all [Int.natCast_inj])
theorem n_strings_Split : QN PP 50 sp_pieces := by
  refine QN_pf (fun i h => ?_) fun i h => ?_
  · obtain ⟨s, sep⟩ := i; first | rfl | simp
  obtain ⟨s, sep⟩ := i
  replace h : s.size ≤ 1048576 ∧ sep.size = 1 := h
  show T PP 50 [.str s, .str sep] .nil fun r' A' => r' = .ref 0 1 0 (piecesB s sep).length .tight ∧ A' = ⟨[some (flatA (strsA (piecesB s sep)))]⟩
  refine ⟨⟨_, Tryz.func50, by kernel_rfl, by kernel_rfl⟩, fun B w0 σ w vs hG hb hs hr => ?_⟩
  obtain ⟨v1, us, rfl, h1, h2⟩ := hr.head
  obtain ⟨v2, us2, rfl, h3, h4⟩ := h2.head
  obtain rfl : us2 = [] := List.eq_nil_of_length_eq_zero h4.1.symm
  cases h1; cases h3
  obtain ⟨m, hm⟩ := (hG w hb).max (by kernel_rfl)
  have hl := pieces_len s sep (by omega)
  have hc := count_le s sep (by omega)
  refine (Tryz.strings_Split s sep m w (by omega) (var_cell0 (by kernel_rfl) hm) (by omega)).mono ?_
  rintro e w' ⟨rfl, rfl⟩
  have hP : Go.Lib.splitB sep 0 (Go.Lib.countB s sep) s = piecesB s sep := rfl
  rw [hP, ← hl]
  generalize hL : piecesB s sep = L at *
  obtain ⟨σ', k1, k2, k3, k4⟩ := new_step hs hb (L.map Value.string).toArray 9 (flatA (strsA L)) (by rw [flat_strs]; simp) (fun j c hj => by
    rw [flat_strs] at hj
    simp only [mapA_get, Option.map_eq_some_iff] at hj
    obtain ⟨x, hx, rfl⟩ := hj
    exact ⟨.string x, by simp [hx], .str x, rfl⟩)
  refine ⟨_, _, _, σ', rfl, ⟨rfl, rfl⟩, k1, k2, ?_, k3⟩
  refine .ref 0 1 0 L.length .tight _ L.length w.heap.size (L.map Value.string).toArray.size (Nat.le_refl _) ?_ (fun _ => rfl) (fun _ => rfl) k4 (by simp) (fun h => by cases h)
  simp only [maxLen]; omega
def cpA (s p : ByteArray) : ByteArray := ⟨(Go.Lib.trimPrefix s.data.toList p.data.toList).toArray⟩
def cpI (s p : ByteArray) : Bool := Go.Lib.hasPrefix s.data.toList p.data.toList
noncomputable def sp_cutP : List AV → Option (AV) := pf (ι := (ByteArray) × (ByteArray)) (α := AV) (fun ⟨s, p⟩ => s.size ≤ 1048576) (fun ⟨s, p⟩ => [.str s, .str p]) (fun ⟨s, p⟩ => .tup [.str (cpA s p), .bool (cpI s p)])
theorem sp_cutP_eq (s p : ByteArray) (h : s.size ≤ 1048576) : sp_cutP [.str s, .str p] = some (.tup [.str (cpA s p), .bool (cpI s p)]) := by
  unfold sp_cutP
  exact pf_eq (ι := (ByteArray) × (ByteArray)) (α := AV) (s, p) h (by rintro ⟨s', p'⟩ _ e; simp_all [Int.natCast_inj])
theorem q_strings_CutPrefix : QP PP 49 sp_cutP := by
  refine QP_pf (fun i h => ?_) fun i h => ?_
  · obtain ⟨s, p⟩ := i; exact ⟨by first | rfl | simp, by first | rfl | simp⟩
  obtain ⟨s, p⟩ := i
  refine T.lib ⟨_, Tryz.func49, by kernel_rfl, by kernel_rfl⟩ (fun σ w vs hr hG => ?_) .nil
  obtain ⟨v1, us, rfl, h1, h2⟩ := hr.head
  obtain ⟨v2, us2, rfl, h3, h4⟩ := h2.head
  obtain rfl : us2 = [] := List.eq_nil_of_length_eq_zero h4.1.symm
  cases h1; cases h3
  refine (Tryz.strings_CutPrefix s p w).mono ?_
  rintro e w' ⟨rfl, rfl⟩
  refine ⟨_, rfl, Below.refl _ _, ?_⟩
  exact .tup [.str (cpA s p), .bool (cpI s p)] [.string _, .bool _] rfl (fun i c z hc hz => by
    match i, hc, hz with
    | 0, hc, hz => cases hc; cases hz; exact .str _
    | 1, hc, hz => cases hc; cases hz; exact .bool _
    | n + 2, hc, hz => cases hc)
theorem cpA_size (s p : ByteArray) : (cpA s p).size ≤ s.size := by
  have e : s.size = s.data.toList.length := by rw [Array.length_toList]; rfl
  unfold cpA Go.Lib.trimPrefix
  rw [e]
  split
  · simp only [ba_size, List.size_toArray, List.length_drop]; omega
  · simp only [ba_size, List.size_toArray]; omega

/-! ### pieces of joined texts -/
def lacks (a : ByteArray) (c : UInt8) : Prop := ∀ b ∈ a.data.toList, b ≠ c
theorem lacks_bAt {a : ByteArray} {c : UInt8} (h : lacks a c) (j : Nat) (hj : j < a.size) : bAt a j ≠ (c.toNat : Int) := by
  have h' : j < a.data.toList.length := by rw [Array.length_toList]; exact hj
  unfold bAt
  rw [List.getElem?_eq_getElem h', Option.getD_some]
  have := h _ (List.getElem_mem h')
  intro e
  apply this
  apply UInt8.toNat_inj.1
  omega
theorem splF_out (s : ByteArray) (c : Int) : ∀ k i f out, splF s c k i f out = out ++ splF s c k i f []
  | 0, i, f, out => by simp [splF]
  | k + 1, i, f, out => by
    rw [splF, splF]
    split
    · rw [splF_out s c k _ _ (out ++ [_]), splF_out s c k _ _ ([] ++ [_])]; simp
    · rw [splF_out s c k _ _ out]
theorem ext_shift (p r : ByteArray) (f i : Nat) : (p ++ r).extract (p.size + f) (p.size + i) = r.extract f i := by
  apply ByteArray.ext
  apply Array.ext'
  have h' : p.data.toList.length = p.size := by rw [Array.length_toList]; rfl
  rw [ByteArray.data_extract, ByteArray.data_extract, Array.toList_extract, Array.toList_extract, ByteArray.data_append, Array.toList_append, ← h']
  simp [List.extract, List.drop_append, Nat.add_sub_add_left]
  rw [List.drop_eq_nil_of_le (by omega), List.nil_append]
theorem splF_shift (p r : ByteArray) (c : Int) : ∀ k i f, splF (p ++ r) c k (p.size + i) (p.size + f) [] = splF r c k i f []
  | 0, i, f => by
    rw [splF, splF, ByteArray.size_append, ext_shift]
  | k + 1, i, f => by
    rw [splF, splF, bAt_right, ext_shift, show p.size + i + 1 = p.size + (i + 1) by omega]
    split
    · rw [splF_out, splF_out (s := r), splF_shift p r c k]
    · exact splF_shift p r c k _ _
theorem splitL_miss {a : ByteArray} {c : UInt8} (h : lacks a c) : splitL a (c.toNat : Int) = [a] := by
  unfold splitL
  have := splF_skip a (c.toNat : Int) 0 0 [] a.size 0 (fun j _ hj => lacks_bAt h j (by omega))
  rw [Nat.add_zero, Nat.zero_add] at this
  rw [this, splF, ext_all]; rfl
theorem splitL_hit {a : ByteArray} {c : UInt8} (h : lacks a c) (r : ByteArray) : splitL (a ++ ⟨#[c]⟩ ++ r) (c.toNat : Int) = a :: splitL r (c.toNat : Int) := by
  unfold splitL
  have hs : (⟨#[c]⟩ : ByteArray).size = 1 := rfl
  have e1 : a ++ ⟨#[c]⟩ ++ r = a ++ ((⟨#[c]⟩ : ByteArray) ++ r) := ByteArray.append_assoc ..
  have hsz : (a ++ ⟨#[c]⟩ ++ r).size = a.size + (r.size + 1) := by rw [e1, ByteArray.size_append, ByteArray.size_append, hs]; omega
  have hA : ∀ j, j < a.size → bAt (a ++ ⟨#[c]⟩ ++ r) j = bAt a j := fun j hj => by rw [e1, bAt_left _ _ _ hj]
  have hM : bAt (a ++ ⟨#[c]⟩ ++ r) a.size = (c.toNat : Int) := by
    have := bAt_right a ((⟨#[c]⟩ : ByteArray) ++ r) 0
    rw [Nat.add_zero] at this
    rw [e1, this, bAt_left _ r 0 (by rw [hs]; omega)]; rfl
  have eL : (a ++ ⟨#[c]⟩ ++ r).extract 0 a.size = a := by rw [e1]; exact ext_left _ _
  have hps : (a ++ (⟨#[c]⟩ : ByteArray)).size = a.size + 1 := by rw [ByteArray.size_append, hs]
  have sh := splF_shift (a ++ ⟨#[c]⟩) r (c.toNat : Int) r.size 0 0
  rw [hps, Nat.add_zero] at sh
  have s1 := splF_skip (a ++ ⟨#[c]⟩ ++ r) (c.toNat : Int) (r.size + 1) 0 [] a.size 0 (fun j _ hj => by rw [hA j (by omega)]; exact lacks_bAt h j (by omega))
  rw [Nat.zero_add] at s1
  rw [hsz, s1, splF, if_pos hM, eL, splF_out, sh]; rfl
theorem index_noneC (c : UInt8) : ∀ (a : List UInt8), (∀ b ∈ a, b ≠ c) → Go.Lib.index a [c] = -1
  | [], _ => rfl
  | d :: a, h => by
    rw [Go.Lib.index, index_noneC c a fun b hb => h b (List.mem_cons_of_mem _ hb)]
    have hc := h d (List.mem_cons_self ..)
    have : List.isPrefixOf [c] (d :: a) = false := by
      simp [List.isPrefixOf]; exact fun e => hc e.symm
    rw [this]; rfl
theorem index_atC (c : UInt8) (b : List UInt8) : ∀ (a : List UInt8), (∀ b ∈ a, b ≠ c) → Go.Lib.index (a ++ c :: b) [c] = a.length
  | [], _ => by
    rw [List.nil_append, Go.Lib.index]
    have : List.isPrefixOf [c] (c :: b) = true := by simp [List.isPrefixOf]
    rw [if_pos this]; rfl
  | d :: a, h => by
    rw [List.cons_append, Go.Lib.index, index_atC c b a fun x hx => h x (List.mem_cons_of_mem _ hx)]
    have hc := h d (List.mem_cons_self ..)
    have : List.isPrefixOf [c] (d :: (a ++ c :: b)) = false := by
      simp [List.isPrefixOf]; exact fun e => hc e.symm
    rw [this]
    have h2 : ((a.length : Int) == -1) = false := by rw [beq_eq_false_iff_ne]; omega
    rw [h2]; simp
theorem pieces_miss {a : ByteArray} {c : UInt8} (h : lacks a c) : piecesB a ⟨#[c]⟩ = [a] := by
  unfold piecesB
  exact Go.Lib.splitB_miss _ _ _ _ (index_noneC c _ h)
theorem pieces_hit {a : ByteArray} {c : UInt8} (h : lacks a c) (r : ByteArray) : piecesB (a ++ ⟨#[c]⟩ ++ r) ⟨#[c]⟩ = a :: piecesB r ⟨#[c]⟩ := by
  have hs : (⟨#[c]⟩ : ByteArray).size = 1 := rfl
  have e1 : a ++ ⟨#[c]⟩ ++ r = a ++ ((⟨#[c]⟩ : ByteArray) ++ r) := ByteArray.append_assoc ..
  have hl : a.data.toList.length = a.size := by rw [Array.length_toList]; rfl
  have el : (a ++ ⟨#[c]⟩ ++ r).data.toList = a.data.toList ++ c :: r.data.toList := by
    rw [ByteArray.data_append, ByteArray.data_append, Array.toList_append, Array.toList_append]; simp
  have hi : Go.Lib.indexB (a ++ ⟨#[c]⟩ ++ r) ⟨#[c]⟩ = (a.size : Nat) := by
    show Go.Lib.index (a ++ ⟨#[c]⟩ ++ r).data.toList [c] = _
    rw [el, index_atC c _ _ h, hl]
  have hc := Go.Lib.countB_hit (a ++ ⟨#[c]⟩ ++ r) ⟨#[c]⟩ a.size (by rw [hs]; omega) hi
  have eL : (a ++ ⟨#[c]⟩ ++ r).extract 0 a.size = a := by rw [e1]; exact ext_left _ _
  have eR : (a ++ ⟨#[c]⟩ ++ r).extract (a.size + 1) (a ++ ⟨#[c]⟩ ++ r).size = r := by
    have := ext_right (a ++ (⟨#[c]⟩ : ByteArray)) r
    rw [ByteArray.size_append (a := a), hs] at this
    exact this
  rw [hs, eR] at hc
  unfold piecesB
  rw [hc, Nat.add_comm 1, Go.Lib.splitB_hit _ _ _ _ a.size hi, hs, Nat.add_zero, eL, eR]
end Go.Proofs.YtgiakpeneckgfaaGreatDoorAi
end

section
/- Contracts: ReadGraph of the program. -/
namespace Go.Proofs.YtgiakpeneckgfaaGreatDoorAi
open Go Go.RowKit
set_option linter.unusedVariables false
set_option linter.unusedSimpArgs false
set_option maxRecDepth 20000

theorem splitB_size (sep : ByteArray) : ∀ (k : Nat) (s : ByteArray), ∀ x ∈ Go.Lib.splitB sep 0 k s, x.size ≤ s.size
  | 0, s => by
    intro x hx
    rw [Go.Lib.splitB_zero] at hx
    rw [List.mem_singleton.1 hx]; exact Nat.le_refl _
  | k + 1, s => by
    intro x hx
    rw [Go.Lib.splitB] at hx
    split at hx
    · rw [List.mem_singleton.1 hx]; exact Nat.le_refl _
    · rcases List.mem_cons.1 hx with rfl | hx
      · rw [ByteArray.size_extract]; omega
      · have := splitB_size sep k _ x hx
        rw [ByteArray.size_extract] at this
        omega
def pairI (n i j : Int) : Bool := ((decide (0 ≤ i) && decide (i ≤ n - 1)) && (decide (0 ≤ j) && decide (j ≤ n - 1))) && (i != j)
noncomputable def sp_pairI : List AV → Option (AV) := pf (ι := (Int) × (Int) × (Int)) (α := AV) (fun ⟨n, i, j⟩ => 0 ≤ n ∧ n ≤ 5) (fun ⟨n, i, j⟩ => [.int .i64 n, .int .i64 i, .int .i64 j]) (fun ⟨n, i, j⟩ => .bool (pairI n i j))
theorem sp_pairI_eq (n i j : Int) (h : 0 ≤ n ∧ n ≤ 5) : sp_pairI [.int .i64 n, .int .i64 i, .int .i64 j] = some (.bool (pairI n i j)) := by
  unfold sp_pairI
  exact pf_eq (ι := (Int) × (Int) × (Int)) (α := AV) (n, i, j) h (by rintro ⟨n', i', j'⟩ _ e; simp_all [Int.natCast_inj])
theorem q_impl_isPair : QP PP 52 sp_pairI := by
  refine QP_pf (fun i h => ?_) fun i h => ?_
  · obtain ⟨n, i, j⟩ := i; exact ⟨by first | rfl | simp, by first | rfl | simp⟩
  obtain ⟨n, i, j⟩ := i
  replace h : 0 ≤ n ∧ n ≤ 5 := h
  refine P_code (Quiet.q1 q_impl_in Quiet.nil) hmix k_impl_isPair rfl ?_ ?_
  · first | rfl | simp
  show wpc 0 PP _ c_impl_isPair (initSt [.int .i64 n, .int .i64 i, .int .i64 j] .nil) (endP r_impl_isPair (.bool (pairI n i j)))
  have hw : IntKind.wrap .i64 (n - 1) = n - 1 := wrapI64 (by omega) (by omega)
  unfold pairI
  cases h1 : (decide (0 ≤ i) && decide (i ≤ n - 1)) <;> cases h2 : (decide (0 ≤ j) && decide (j ≤ n - 1)) <;> simp -dsimp -implicitDefEqProofs [c_impl_isPair, r_impl_isPair, hw, h1, h2]
theorem q_spec_l01Pair : QP PP 36 sp_pairI := by
  refine QP_pf (fun i h => ?_) fun i h => ?_
  · obtain ⟨n, i, j⟩ := i; exact ⟨by first | rfl | simp, by first | rfl | simp⟩
  obtain ⟨n, i, j⟩ := i
  replace h : 0 ≤ n ∧ n ≤ 5 := h
  refine P_code (Quiet.q1 q_spec_l00In Quiet.nil) hmix k_spec_l01Pair rfl ?_ ?_
  · first | rfl | simp
  show wpc 0 PP _ c_spec_l01Pair (initSt [.int .i64 n, .int .i64 i, .int .i64 j] .nil) (endP r_spec_l01Pair (.bool (pairI n i j)))
  have hw : IntKind.wrap .i64 (n - 1) = n - 1 := wrapI64 (by omega) (by omega)
  unfold pairI
  cases h1 : (decide (0 ≤ i) && decide (i ≤ n - 1)) <;> cases h2 : (decide (0 ≤ j) && decide (j ≤ n - 1)) <;> simp -dsimp -implicitDefEqProofs [c_spec_l01Pair, r_spec_l01Pair, hw, h1, h2]
theorem pairI_in {n i j : Int} (hn : n ≤ 5) (h : pairI n i j = true) : (0 ≤ i ∧ i < 5) ∧ (0 ≤ j ∧ j < 5) ∧ i ≠ j := by
  unfold pairI at h
  simp only [Bool.and_eq_true, decide_eq_true_eq, bne_iff_ne, ne_eq] at h
  refine ⟨⟨by omega, by omega⟩, ⟨by omega, by omega⟩, h.2⟩
theorem bit_small {i j : Int} (h : (0 ≤ i ∧ i < 5) ∧ (0 ≤ j ∧ j < 5) ∧ i ≠ j) : (2 : Nat) ^ bitI i.toNat j.toNat < 1024 := by
  have := bitI_10 (i := i.toNat) (j := j.toNat) (by omega) (by omega) (by omega)
  exact Nat.pow_lt_pow_right (by decide) this
def eA (w : ByteArray) : Int := numV (cutA w dashB)
def eB (w : ByteArray) : Int := numV (cutB w dashB)
def edgeOk (n : Int) (w : ByteArray) : Bool := (numB (cutA w dashB) && numB (cutB w dashB)) && pairI n (eA w) (eB w)
def goI (n : Int) : List ByteArray → Nat → Option Nat
  | [], m => some m
  | w :: r, m => if edgeOk n w = true then goI n r (m ||| 2 ^ bitI (eA w).toNat (eB w).toNat) else none
def wdI (s : ByteArray) : List ByteArray := piecesB (cpA s graphB) sepB
def hdI (s : ByteArray) : ByteArray := (wdI s)[0]?.getD noB
def nI (s : ByteArray) : Int := numV (hdI s)
def okI (s : ByteArray) : Bool := (cpI s graphB && numB (hdI s)) && (decide (0 ≤ nI s) && decide (nI s ≤ 5))
def rgO (s : ByteArray) : Option (Nat × Nat) := if okI s = true then (goI (nI s) ((wdI s).drop 1) 0).bind fun m => if (grT m (nI s).toNat == s) = true then some ((nI s).toNat, m) else none else none
def rgA : Option (Nat × Nat) → AV
  | some (n, m) => .tup [.agg [.int .i64 n, .int .u32 m], .int .i64 0]
  | none => .tup [.agg [.int .i64 0, .int .u32 0], .int .i64 5]
@[simp] theorem rgA_lt (o : Option (Nat × Nat)) (n : Nat) : (rgA o).lt n = true := by
  cases o with
  | none => rfl
  | some p => rfl
noncomputable def sp_readGr : List AV → Option (AV) := pf (ι := (ByteArray)) (α := AV) (fun s => s.size ≤ 1048576) (fun s => [.str s]) (fun s => rgA (rgO s))
theorem sp_readGr_eq (s : ByteArray) (h : s.size ≤ 1048576) : sp_readGr [.str s] = some (rgA (rgO s)) := by
  unfold sp_readGr
  exact pf_eq (ι := (ByteArray)) (α := AV) s h (by rintro s' _ e; simp_all [Int.natCast_inj])
set_option maxHeartbeats 2000000 in
theorem q_impl_ReadGraph : QP PP 21 sp_readGr := by
  refine QP_pf (fun s h => ?_) fun s h => ?_
  · exact ⟨by first | rfl | simp, by first | rfl | simp⟩
  replace h : s.size ≤ 1048576 := h
  refine P_code (Quiet.q1 q_strings_CutPrefix (Quiet.q1 q_impl_number (Quiet.q1 q_impl_sizeOk (Quiet.q1 q_strings_Cut (Quiet.q1 q_impl_isPair (Quiet.q1 q_impl_bit (Quiet.q1 q_impl_Graph_text (Quiet.e1 n_strings_Split.toE Quiet.nil)))))))) hmix k_impl_ReadGraph rfl ?_ ?_
  · first | rfl | simp
  show wpc 0 PP _ c_impl_ReadGraph (initSt [.str s] .nil) (endP r_impl_ReadGraph (rgA (rgO s)))
  have hcp : sp_cutP [.str s, .str ⟨#[103, 114, 97, 112, 104, 32]⟩] = some (.tup [.str (cpA s graphB), .bool (cpI s graphB)]) := sp_cutP_eq s graphB h
  have hcs := cpA_size s graphB
  have hsp : sp_pieces [.str (cpA s graphB), .str ⟨#[32]⟩] = some (.ref 0 1 0 (wdI s).length .tight, [some (flatA (strsA (wdI s)))]) := sp_pieces_eq (cpA s graphB) sepB ⟨by omega, rfl⟩
  rw [flat_strs] at hsp
  have hlen : 0 < (wdI s).length := by unfold wdI; rw [pieces_len _ _ (by decide)]; omega
  have hleni : (0 : Int) < (wdI s).length := by omega
  have hmost : (wdI s).length ≤ 1048577 := by
    unfold wdI; rw [pieces_len _ _ (by decide)]
    have := count_le (cpA s graphB) sepB (by decide)
    omega
  have e0 : (wdI s)[0]'hlen = hdI s := by unfold hdI; rw [List.getElem?_eq_getElem hlen]; rfl
  have hsz : ∀ w ∈ wdI s, w.size ≤ 1048576 := fun w hw => by
    have := splitB_size sepB _ _ w hw
    omega
  have hz0 : (hdI s).size ≤ 1048576 := by rw [← e0]; exact hsz _ (List.getElem_mem hlen)
  have hnum := sp_numI_eq (hdI s) hz0
  unfold rgO
  generalize hW : wdI s = W at *
  have hso := sp_sizeOk_eq (numV (hdI s))
  have l1 : 1 ≤ W.length := by omega
  have q0 : W[0]? = some (hdI s) := by rw [List.getElem?_eq_getElem hlen, e0]
  have r3 : ltL 3 (strsA W) = true := by rw [← flat_strs]; simp
  have rr0 : renL (fun b => b) (strsA W) = strsA W := by rw [← flat_strs]; simp
  have rr : renL (shiftN 1) (strsA W) = strsA W := by rw [← flat_strs]; simp
  cases h1 : cpI s graphB <;> rw [h1] at hcp
  · have : okI s = false := by unfold okI; rw [h1]; rfl
    rw [this]
    simp -dsimp -implicitDefEqProofs [c_impl_ReadGraph, r_impl_ReadGraph, hcp, hsp, rr, hlen, hleni, e0, q0, hnum, rgA]
  cases h2 : numB (hdI s) <;> rw [h2] at hnum
  · have : okI s = false := by unfold okI; rw [h1, h2]; rfl
    rw [this]
    simp -dsimp -implicitDefEqProofs [c_impl_ReadGraph, r_impl_ReadGraph, hcp, hsp, rr, hlen, hleni, e0, q0, hnum, rgA]
  cases h3 : (decide (0 ≤ numV (hdI s)) && decide (numV (hdI s) ≤ 5)) <;> rw [h3] at hso
  · have : okI s = false := by unfold okI nI; rw [h1, h2, h3]; rfl
    rw [this]
    simp -dsimp -implicitDefEqProofs [c_impl_ReadGraph, r_impl_ReadGraph, hcp, hsp, rr, hlen, hleni, e0, q0, hnum, hso, h3, rgA]
  have : okI s = true := by unfold okI nI; rw [h1, h2, h3]; rfl
  rw [if_pos this]
  simp only [Bool.and_eq_true, decide_eq_true_eq] at h3
  obtain ⟨n, hn⟩ := Int.eq_ofNat_of_zero_le h3.1
  have hnI : nI s = (n : Int) := hn
  have hn5 : n ≤ 5 := by omega
  rw [hnI]
  rw [hn] at hnum hso
  simp -dsimp -implicitDefEqProofs [c_impl_ReadGraph, r_impl_ReadGraph, hcp, hsp, rr, hlen, hleni, e0, q0, hnum, hso, l1]
  refine wpLoop_st (fun (q : Nat × Nat) => ⟨tl [(0, .str s), (2, .ptr 0 0), (7, .int .i64 n), (9, .ptr 2 0), (48, .ref 1 1 1 (W.length - 1) .tight), (49, .int .i64 ((W.length - 1 : Nat) : Int)), (50, .int .i64 q.1)], ⟨[some [.int .i64 0, .int .u32 0], some (strsA W), some [.int .i64 n, .int .u32 q.2]]⟩⟩) (fun q => q.1 ≤ W.length - 1 ∧ q.2 < 1024 ∧ goI n (W.drop (1 + q.1)) q.2 = goI n W.tail 0) (fun q => W.length - 1 - q.1) (0, 0) ⟨by simp, by simp, by simp⟩ (Sub.keep (by simp) (by simp [hsub, rr0, r3]) (by simp)) ?_
  rintro ⟨i, m⟩ ⟨hi, hm, hg⟩
  simp only at hi hm hg
  simp -dsimp -implicitDefEqProofs
  refine brW_of (fun h => ?_) (fun h => ?_) <;> simp only [decide_eq_true_eq, decide_eq_false_iff_not] at h
  · have hx1 : 1 + i < W.length := by omega
    have hx2 : i < W.length - 1 := by omega
    have hx3 : (i : Int) < ((W.length - 1 : Nat) : Int) := by omega
    have hw := wrapNat (i := i) (by omega)
    have hwsz := hsz _ (List.getElem_mem hx1)
    rw [drop_cons hx1, goI] at hg
    have q1 : W[1 + i]? = some W[1 + i] := List.getElem?_eq_getElem hx1
    generalize hww : W[1 + i] = w at *
    have hct : sp_cutS [.str w, .str ⟨#[45]⟩] = some (.tup [.str (cutA w dashB), .str (cutB w dashB), .bool (cutI w dashB)]) := sp_cutS_eq w dashB hwsz
    have hcz := cut_sizes w dashB
    have n1 : sp_numI [.str (cutA w dashB)] = some (.tup [.int .i64 (eA w), .bool (numB (cutA w dashB))]) := sp_numI_eq _ (by omega)
    have n2 : sp_numI [.str (cutB w dashB)] = some (.tup [.int .i64 (eB w), .bool (numB (cutB w dashB))]) := sp_numI_eq _ (by omega)
    have hpr := sp_pairI_eq n (eA w) (eB w) (by omega)
    cases k1 : numB (cutA w dashB) <;> rw [k1] at n1
    · have ke : edgeOk n w = false := by unfold edgeOk; rw [k1]; rfl
      rw [ke] at hg
      simp only [Bool.false_eq_true, if_false] at hg
      rw [← hg]
      simp -dsimp -implicitDefEqProofs [hx1, hx2, hx3, hww, q1, hct, n1, n2, rgA]
    cases k2 : numB (cutB w dashB) <;> rw [k2] at n2
    · have ke : edgeOk n w = false := by unfold edgeOk; rw [k1, k2]; rfl
      rw [ke] at hg
      simp only [Bool.false_eq_true, if_false] at hg
      rw [← hg]
      simp -dsimp -implicitDefEqProofs [hx1, hx2, hx3, hww, q1, hct, n1, n2, rgA]
    cases k3 : pairI n (eA w) (eB w) <;> rw [k3] at hpr
    · have ke : edgeOk n w = false := by unfold edgeOk; rw [k1, k2, k3]; rfl
      rw [ke] at hg
      simp only [Bool.false_eq_true, if_false] at hg
      rw [← hg]
      simp -dsimp -implicitDefEqProofs [hx1, hx2, hx3, hww, q1, hct, n1, n2, hpr, rgA]
    have ke : edgeOk n w = true := by unfold edgeOk; rw [k1, k2, k3]; rfl
    rw [if_pos ke] at hg
    have hin := pairI_in (by omega) k3
    have hbt := sp_bit_eq (eA w) (eB w) ⟨by omega, by omega⟩
    have hsm := bit_small hin
    have ho := or32 (a := m) (b := 2 ^ bitI (eA w).toNat (eB w).toNat) (by omega) (by omega)
    have hcast : ((2 ^ bitI (eA w).toNat (eB w).toNat : Nat) : Int) = 2 ^ bitI (eA w).toNat (eB w).toNat := by simp
    rw [hcast] at ho
    have hlt : m ||| 2 ^ bitI (eA w).toNat (eB w).toNat < 1024 := Nat.or_lt_two_pow (n := 10) hm hsm
    generalize hE : (m ||| 2 ^ bitI (eA w).toNat (eB w).toNat) = m2 at *
    generalize (2 : Int) ^ bitI (eA w).toNat (eB w).toNat = bt at *
    have hg2 : goI n (W.drop (1 + (i + 1))) m2 = goI n W.tail 0 := by rw [show 1 + (i + 1) = 1 + i + 1 by omega]; exact hg
    simp -dsimp -implicitDefEqProofs [hx1, hx2, hx3, hww, q1, hct, n1, n2, hpr, hbt, ho, hw]
    exact .mk (i + 1, m2) ⟨by simp only; omega, by simp only; omega, hg2⟩ (by simp only; omega) (Sub.keep (by simp) (by simp [hsub, rr0, r3]; simpa using ho) (by simp [hw]))
  · have hi' : 1 + i = W.length := by omega
    rw [hi', List.drop_length, goI] at hg
    rw [← hg, Option.bind_some]
    have ht := sp_graphTx_eq n m ⟨hn5, by omega, by omega⟩
    cases hq : (grT m n == s) with
    | true =>
      have hq' : (grT m n != s) = false := by unfold bne; rw [hq]; rfl
      simp -dsimp -implicitDefEqProofs [ht, hq', rgA]
    | false =>
      have hq' : (grT m n != s) = true := by unfold bne; rw [hq]; rfl
      simp -dsimp -implicitDefEqProofs [ht, hq', rgA]
end Go.Proofs.YtgiakpeneckgfaaGreatDoorAi
end

section
/- Contracts: ReadGraph of the reference. -/
namespace Go.Proofs.YtgiakpeneckgfaaGreatDoorAi
open Go Go.RowKit
set_option linter.unusedVariables false
set_option linter.unusedSimpArgs false
set_option maxRecDepth 20000

def wA (w : ByteArray) : ByteArray := (splitL w 45)[0]?.getD noB
def wB (w : ByteArray) : ByteArray := (splitL w 45)[1]?.getD noB
def edgeS (n : Int) (w : ByteArray) : Bool := decide ((splitL w 45).length = 2) && ((l01B (wA w) && l01B (wB w)) && pairI n (l01V (wA w)) (l01V (wB w)))
def goS (n : Int) : List ByteArray → Nat → Option Nat
  | [], m => some m
  | w :: r, m => if edgeS n w = true then goS n r (m ||| 2 ^ bitI (l01V (wA w)).toNat (l01V (wB w)).toNat) else none
def gword : ByteArray := ⟨#[103, 114, 97, 112, 104]⟩
def h0S (s : ByteArray) : ByteArray := (splitL s 32)[0]?.getD noB
def h1S (s : ByteArray) : ByteArray := (splitL s 32)[1]?.getD noB
def nS (s : ByteArray) : Int := l01V (h1S s)
def okS (s : ByteArray) : Bool := (decide (2 ≤ (splitL s 32).length) && (h0S s == gword)) && (l01B (h1S s) && decide (nS s ≤ 5))
def rsO (s : ByteArray) : Option (Nat × Nat) := if okS s = true then (goS (nS s) ((splitL s 32).drop 2) 0).bind fun m => if (graphT (nS s) m == s) = true then some ((nS s).toNat, m) else none else none
noncomputable def sp_readGrS : List AV → Option (AV) := pf (ι := (ByteArray)) (α := AV) (fun s => s.size ≤ 1048576) (fun s => [.str s]) (fun s => rgA (rsO s))
theorem sp_readGrS_eq (s : ByteArray) (h : s.size ≤ 1048576) : sp_readGrS [.str s] = some (rgA (rsO s)) := by
  unfold sp_readGrS
  exact pf_eq (ι := (ByteArray)) (α := AV) s h (by rintro s' _ e; simp_all [Int.natCast_inj])
set_option maxHeartbeats 4000000 in
theorem q_spec_ReadGraph : QP PP 12 sp_readGrS := by
  refine QP_pf (fun s h => ?_) fun s h => ?_
  · exact ⟨by first | rfl | simp, by first | rfl | simp⟩
  replace h : s.size ≤ 1048576 := h
  refine P_code (Quiet.q1 q_spec_l01Number (Quiet.q1 q_spec_l01Pair (Quiet.q1 q_spec_l01Bit (Quiet.q1 q_spec_GraphText (Quiet.e1 n_spec_l01Split.toE Quiet.nil))))) hmix k_spec_ReadGraph rfl ?_ ?_
  · first | rfl | simp
  show wpc 0 PP _ c_spec_ReadGraph (initSt [.str s] .nil) (endP r_spec_ReadGraph (rgA (rsO s)))
  have hsp := sp_split_eq s 32 ⟨h, by omega, by omega⟩
  rw [flat_strs] at hsp
  have hne : splitL s 32 ≠ [] := (splF_len s 32 _ _ _ _).2
  have hlenm := (splF_len s 32 s.size 0 0 []).1
  have hlen : 0 < (splitL s 32).length := List.length_pos_iff.2 hne
  have hmost : (splitL s 32).length ≤ 1048577 := by
    have : (splitL s 32).length ≤ 0 + s.size + 1 := hlenm
    omega
  have hleni : (0 : Int) < (splitL s 32).length := by omega
  have e0 : (splitL s 32)[0]'hlen = h0S s := by unfold h0S; rw [List.getElem?_eq_getElem hlen]; rfl
  have hsz : ∀ w ∈ splitL s 32, w.size ≤ 1048576 := fun w hw => by have := splitL_size s 32 w hw; omega
  have e1 : ∀ hl : 1 < (splitL s 32).length, (splitL s 32)[1]'hl = h1S s := fun hl => by unfold h1S; rw [List.getElem?_eq_getElem hl]; rfl
  unfold rsO
  by_cases h2 : 2 ≤ (splitL s 32).length
  rotate_left
  · have : okS s = false := by unfold okS; rw [decide_eq_false h2]; rfl
    rw [this]
    generalize splitL s 32 = W at *
    have rr : renL (shiftN 1) (strsA W) = strsA W := by rw [← flat_strs]; simp
    have h2' : (W.length : Int) < 2 := by omega
    have h2n : W.length < 2 := by omega
    simp -dsimp -implicitDefEqProofs [c_spec_ReadGraph, r_spec_ReadGraph, hsp, rr, h2', h2n, rgA]
  have hl1 : 1 < (splitL s 32).length := by omega
  have e1' := e1 hl1
  have hz1 : (h1S s).size ≤ 1048576 := by rw [← e1']; exact hsz _ (List.getElem_mem hl1)
  have hnum := sp_l01Num_eq (h1S s) hz1
  have hpos := l01V_in (h1S s)
  have hgw : (h0S s != (⟨#[103, 114, 97, 112, 104]⟩ : ByteArray)) = !(h0S s == gword) := rfl
  have okE : okS s = ((h0S s == gword) && (l01B (h1S s) && decide (nS s ≤ 5))) := by unfold okS; rw [decide_eq_true h2, Bool.true_and]
  rw [okE]
  generalize hW : splitL s 32 = W at *
  have r3 : ltL 3 (strsA W) = true := by rw [← flat_strs]; simp
  have rr0 : renL (fun b => b) (strsA W) = strsA W := by rw [← flat_strs]; simp
  have rr : renL (shiftN 1) (strsA W) = strsA W := by rw [← flat_strs]; simp
  have h2' : ¬ (W.length : Int) < 2 := by omega
  have h2n : ¬ W.length < 2 := by omega
  have q0 : W[0]? = some (h0S s) := by rw [List.getElem?_eq_getElem hlen, e0]
  have q1 : W[1]? = some (h1S s) := by rw [List.getElem?_eq_getElem hl1, e1']
  have hl1i : (1 : Int) < W.length := by omega
  cases k1 : (h0S s == gword) <;> rw [k1] at hgw
  · simp -dsimp -implicitDefEqProofs [c_spec_ReadGraph, r_spec_ReadGraph, hsp, rr, h2', h2n, hlen, hleni, e0, q0, hgw, rgA]
  cases k2 : l01B (h1S s) <;> rw [k2] at hnum
  · simp -dsimp -implicitDefEqProofs [c_spec_ReadGraph, r_spec_ReadGraph, hsp, rr, h2', h2n, hlen, hleni, hl1, hl1i, e0, e1', q0, q1, hgw, hnum, rgA]
  by_cases k3 : nS s ≤ 5
  rotate_left
  · have k3' : 5 < l01V (h1S s) := by unfold nS at k3; omega
    simp -dsimp -implicitDefEqProofs [c_spec_ReadGraph, r_spec_ReadGraph, hsp, rr, h2', h2n, hlen, hleni, hl1, hl1i, e0, e1', q0, q1, hgw, hnum, k3, k3', rgA]
  have k3' : ¬ 5 < l01V (h1S s) := by unfold nS at k3; omega
  obtain ⟨n, hn⟩ := Int.eq_ofNat_of_zero_le hpos.1
  have hnS : nS s = (n : Int) := hn
  have hn5 : n ≤ 5 := by omega
  rw [hnS] at k3 ⊢
  rw [hn] at hnum k3'
  simp -dsimp -implicitDefEqProofs [c_spec_ReadGraph, r_spec_ReadGraph, hsp, rr, h2', h2n, hlen, hleni, hl1, hl1i, e0, e1', q0, q1, hgw, hnum, k3, k3', hn5]
  refine wpLoop_st (fun (q : Nat × Nat) => ⟨tl [(0, .str s), (2, .ptr 0 0), (4, .ref 1 1 0 W.length .full), (5, .int .i64 n), (7, .ptr 2 0), (8, .int .i64 ((q.1 : Int) + 2))], ⟨[some [.int .i64 0, .int .u32 0], some (strsA W), some [.int .i64 n, .int .u32 q.2]]⟩⟩) (fun q => q.1 + 2 ≤ W.length ∧ q.2 < 1024 ∧ goS n (W.drop (q.1 + 2)) q.2 = goS n (W.drop 2) 0) (fun q => W.length - q.1) (0, 0) ⟨by simp only; omega, by simp, rfl⟩ (Sub.keep (by simp) (by simp [hsub, rr0, r3]) (by simp)) ?_
  rintro ⟨i, m⟩ ⟨hi, hm, hg⟩
  simp only at hi hm hg
  simp -dsimp -implicitDefEqProofs
  refine brW_of (fun h => ?_) (fun h => ?_) <;> simp only [decide_eq_true_eq, decide_eq_false_iff_not] at h
  · have hx1 : i + 2 < W.length := by omega
    have hx3 : (i : Int) + 2 < W.length := by omega
    have hx4 : (0 : Int) ≤ (i : Int) + 2 := by omega
    have hx5 : ((i : Int) + 2).toNat = i + 2 := by omega
    have hw : IntKind.wrap .i64 ((i : Int) + 2 + 1) = (i : Int) + 2 + 1 := wrapI64 (by omega) (by omega)
    have hwsz := hsz _ (List.getElem_mem hx1)
    rw [drop_cons hx1, goS] at hg
    have q2 : W[i + 2]? = some W[i + 2] := List.getElem?_eq_getElem hx1
    generalize hww : W[i + 2] = w at *
    have hs2 := sp_split_eq w 45 ⟨hwsz, by omega, by omega⟩
    rw [flat_strs] at hs2
    have hz2 := splitL_size w 45
    have f0 : wA w = (splitL w 45)[0]?.getD noB := rfl
    have f1 : wB w = (splitL w 45)[1]?.getD noB := rfl
    have ke : edgeS n w = (decide ((splitL w 45).length = 2) && ((l01B (wA w) && l01B (wB w)) && pairI n (l01V (wA w)) (l01V (wB w)))) := rfl
    generalize splitL w 45 = E at *
    have rrE : renL (shiftN 3) (strsA E) = strsA E := by rw [← flat_strs]; simp
    by_cases k4 : E.length = 2
    rotate_left
    · have k4' : ((E.length : Int) != 2) = true := by simp; omega
      rw [decide_eq_false k4, Bool.false_and] at ke
      rw [ke] at hg
      simp only [Bool.false_eq_true, if_false] at hg
      rw [← hg]
      simp -dsimp -implicitDefEqProofs [hx1, hx3, hx4, hx5, hww, q2, hs2, rrE, k4', rgA]
    have k4' : ((E.length : Int) != 2) = false := by simp; omega
    rw [decide_eq_true k4, Bool.true_and] at ke
    have hE0 : 0 < E.length := by omega
    have hE1 : 1 < E.length := by omega
    have hE0i : (0 : Int) < E.length := by omega
    have hE1i : (1 : Int) < E.length := by omega
    have g0 : E[0] = wA w := by rw [f0, List.getElem?_eq_getElem hE0]; rfl
    have g1 : E[1] = wB w := by rw [f1, List.getElem?_eq_getElem hE1]; rfl
    have p0 : E[0]? = some (wA w) := by rw [List.getElem?_eq_getElem hE0, g0]
    have p1 : E[1]? = some (wB w) := by rw [List.getElem?_eq_getElem hE1, g1]
    have zA := hz2 _ (List.getElem_mem hE0)
    have zB := hz2 _ (List.getElem_mem hE1)
    rw [g0] at zA
    rw [g1] at zB
    have n1 := sp_l01Num_eq (wA w) (by omega)
    have n2 := sp_l01Num_eq (wB w) (by omega)
    have hpr := sp_pairI_eq n (l01V (wA w)) (l01V (wB w)) (by omega)
    cases k5 : l01B (wA w) <;> rw [k5] at n1 ke
    · rw [Bool.false_and, Bool.false_and] at ke
      rw [ke] at hg
      simp only [Bool.false_eq_true, if_false] at hg
      rw [← hg]
      simp -dsimp -implicitDefEqProofs [hx1, hx3, hx4, hx5, hww, q2, hs2, rrE, k4', hE0, hE1, hE0i, hE1i, g0, g1, p0, p1, n1, n2, rgA]
    cases k6 : l01B (wB w) <;> rw [k6] at n2 ke
    · rw [Bool.and_false, Bool.false_and] at ke
      rw [ke] at hg
      simp only [Bool.false_eq_true, if_false] at hg
      rw [← hg]
      simp -dsimp -implicitDefEqProofs [hx1, hx3, hx4, hx5, hww, q2, hs2, rrE, k4', hE0, hE1, hE0i, hE1i, g0, g1, p0, p1, n1, n2, rgA]
    cases k7 : pairI n (l01V (wA w)) (l01V (wB w)) <;> rw [k7] at hpr ke
    · rw [Bool.and_false] at ke
      rw [ke] at hg
      simp only [Bool.false_eq_true, if_false] at hg
      rw [← hg]
      simp -dsimp -implicitDefEqProofs [hx1, hx3, hx4, hx5, hww, q2, hs2, rrE, k4', hE0, hE1, hE0i, hE1i, g0, g1, p0, p1, n1, n2, hpr, rgA]
    rw [if_pos (by rw [ke]; rfl)] at hg
    have hin := pairI_in (by omega) k7
    have hbt := sp_bit_eq (l01V (wA w)) (l01V (wB w)) ⟨by omega, by omega⟩
    have hsm := bit_small hin
    have ho := or32 (a := m) (b := 2 ^ bitI (l01V (wA w)).toNat (l01V (wB w)).toNat) (by omega) (by omega)
    have hcast : ((2 ^ bitI (l01V (wA w)).toNat (l01V (wB w)).toNat : Nat) : Int) = 2 ^ bitI (l01V (wA w)).toNat (l01V (wB w)).toNat := by simp
    rw [hcast] at ho
    have hlt : m ||| 2 ^ bitI (l01V (wA w)).toNat (l01V (wB w)).toNat < 1024 := Nat.or_lt_two_pow (n := 10) hm hsm
    generalize hE : (m ||| 2 ^ bitI (l01V (wA w)).toNat (l01V (wB w)).toNat) = m2 at *
    generalize (2 : Int) ^ bitI (l01V (wA w)).toNat (l01V (wB w)).toNat = bt at *
    have hg2 : goS n (W.drop (i + 1 + 2)) m2 = goS n (W.drop 2) 0 := by rw [show i + 1 + 2 = i + 2 + 1 by omega]; exact hg
    simp -dsimp -implicitDefEqProofs [hx1, hx3, hx4, hx5, hww, q2, hs2, rrE, k4', hE0, hE1, hE0i, hE1i, g0, g1, p0, p1, n1, n2, hpr, hbt, ho, hw]
    exact .mk (i + 1, m2) ⟨by simp only; omega, by simp only; omega, hg2⟩ (by simp only; omega) (Sub.keep (by simp) (by simp [hsub, rr0, r3]; simpa using ho) (by simp [hw]; omega))
  · have hi' : i + 2 = W.length := by omega
    rw [hi', List.drop_length, goS] at hg
    rw [← hg, Option.bind_some]
    have ht := sp_graphText_eq n m ⟨by omega, by omega⟩
    cases hq : (graphT n m == s) with
    | true =>
      have hq' : (graphT n m != s) = false := by unfold bne; rw [hq]; rfl
      simp -dsimp -implicitDefEqProofs [ht, hq', rgA]
    | false =>
      have hq' : (graphT n m != s) = true := by unfold bne; rw [hq]; rfl
      simp -dsimp -implicitDefEqProofs [ht, hq', rgA]
end Go.Proofs.YtgiakpeneckgfaaGreatDoorAi
end

section
/- Plain law and law: ReadGraph. -/
namespace Go.Proofs.YtgiakpeneckgfaaGreatDoorAi
open Go Go.RowKit
set_option linter.unusedVariables false
set_option linter.unusedSimpArgs false
set_option maxRecDepth 20000

def edgeW (x : Fr) : ByteArray := decB x.p ++ dashB ++ decB x.q
def tailT : List Fr → ByteArray
  | [] => noB
  | x :: L => sepB ++ edgeW x ++ tailT L
theorem app_noB (a : ByteArray) : a ++ noB = a := by apply ByteArray.ext; simp [noB]
theorem edT_tail : ∀ (L : List Fr) (w : ByteArray), edT w L = w ++ tailT L
  | [], w => by rw [tailT, app_noB]; rfl
  | x :: L, w => by
    show edT (w ++ edgeT x.p x.q) L = _
    rw [edT_tail L, tailT]
    unfold edgeT edgeW
    simp only [ByteArray.append_assoc]
theorem decB_bytes {n : Int} (h : 0 ≤ n) : ∀ b ∈ (decB n).data.toList, 48 ≤ b.toNat ∧ b.toNat ≤ 57 := by
  intro b hb
  have e : (decB n).data.toList = Go.Lib.itoa n := by simp [decB]
  rw [e] at hb
  unfold Go.Lib.itoa at hb
  rw [if_neg (by omega)] at hb
  exact decD_dig _ b hb
theorem decB_lacks {n : Int} (h : 0 ≤ n) {c : UInt8} (hc : c.toNat < 48) : lacks (decB n) c := by
  intro b hb e
  subst e
  have := (decB_bytes h b hb).1
  omega
theorem edgeW_lacks {x : Fr} (hp : 0 ≤ x.p) (hq : 0 ≤ x.q) : lacks (edgeW x) 32 := by
  intro b hb
  unfold edgeW at hb
  rw [ByteArray.data_append, ByteArray.data_append, Array.toList_append, Array.toList_append] at hb
  rcases List.mem_append.1 hb with hb | hb
  · rcases List.mem_append.1 hb with hb | hb
    · exact decB_lacks hp (c := 32) (by decide) b hb
    · have : b = 45 := by simpa [dashB] using hb
      subst this; decide
  · exact decB_lacks hq (c := 32) (by decide) b hb
theorem pieces_tail {Sp : ByteArray → List ByteArray} (hm : ∀ a, lacks a 32 → Sp a = [a]) (hh : ∀ a r, lacks a 32 → Sp (a ++ ⟨#[32]⟩ ++ r) = a :: Sp r) : ∀ (L : List Fr) (A : ByteArray), lacks A 32 → (∀ x ∈ L, lacks (edgeW x) 32) → Sp (A ++ tailT L) = A :: L.map edgeW
  | [], A, hA, _ => by rw [tailT, app_noB]; exact hm A hA
  | x :: L, A, hA, hL => by
    have e : A ++ tailT (x :: L) = A ++ ⟨#[32]⟩ ++ (edgeW x ++ tailT L) := by
      rw [tailT]; unfold sepB; simp only [ByteArray.append_assoc]
    rw [e, hh A _ hA, pieces_tail hm hh L (edgeW x) (hL x (List.mem_cons_self ..)) fun y hy => hL y (List.mem_cons_of_mem _ hy)]
    rfl
theorem l01_dec (n : Int) (h0 : 0 ≤ n) (h1 : n < 1000000000) : l01V (decB n) = n ∧ l01B (decB n) = true := by
  have h := wh_dec n h0 (by omega)
  unfold whV whB at h
  have hf : (decB n == billB) = false := by
    rw [ba_eq]
    refine decide_eq_false fun e => ?_
    have h2 := (num_dec n (by omega) (by omega)).1
    have h3 := (num_dec 1000000000 (by omega) (by omega)).1
    rw [decB_bill] at h3
    rw [e, h3] at h2
    omega
  rw [hf] at h
  simpa using h
/-- The pairs of a graph: the lesser vertex ahead. -/
theorem pairsE_lt (e : Int) : ∀ (j : Nat), ∀ x ∈ pairsE e j, 0 ≤ x.p ∧ x.p < x.q ∧ x.q < j
  | 0 => by intro x hx; cases hx
  | j + 1 => by
    intro x hx
    rw [pairsE] at hx
    rcases List.mem_append.1 hx with hx | hx
    · have := pairsE_lt e j x hx
      omega
    · unfold prE at hx
      obtain ⟨i, hi, rfl⟩ := List.mem_map.1 hx
      have := List.mem_range.1 (List.mem_filter.1 hi).1
      simp only
      omega
def orF (a : Nat) (L : List Fr) : Nat := L.foldl (fun a x => a ||| 2 ^ bitI x.p.toNat x.q.toNat) a
theorem orF_all : (∀ m : Fin 1, orF 0 (pairsE (m.val : Int) 0) = m.val) ∧ (∀ m : Fin 1, orF 0 (pairsE (m.val : Int) 1) = m.val) ∧ (∀ m : Fin 2, orF 0 (pairsE (m.val : Int) 2) = m.val) ∧ (∀ m : Fin 8, orF 0 (pairsE (m.val : Int) 3) = m.val) ∧ (∀ m : Fin 64, orF 0 (pairsE (m.val : Int) 4) = m.val) ∧ (∀ m : Fin 1024, orF 0 (pairsE (m.val : Int) 5) = m.val) := by decide +kernel
theorem orF_pairs {n m : Nat} (h : graphOk n m = true) : orF 0 (pairsE m n) = m := by
  have hn := graphOk_in h
  unfold graphOk at h
  have h2 := (of_decide_eq_true h).2
  have hn' : n = 0 ∨ n = 1 ∨ n = 2 ∨ n = 3 ∨ n = 4 ∨ n = 5 := by omega
  obtain ⟨a0, a1, a2, a3, a4, a5⟩ := orF_all
  rcases hn' with rfl | rfl | rfl | rfl | rfl | rfl
  · exact a0 ⟨m, by have := h2; simp [pairsI] at this; omega⟩
  · exact a1 ⟨m, by have := h2; simp [pairsI] at this; omega⟩
  · exact a2 ⟨m, by have := h2; rw [show pairsI ((2 : Nat) : Int) = 1 from pI2] at this; simp at this; omega⟩
  · exact a3 ⟨m, by have := h2; rw [show pairsI ((3 : Nat) : Int) = 3 from pI3] at this; simp at this; omega⟩
  · exact a4 ⟨m, by have := h2; rw [show pairsI ((4 : Nat) : Int) = 6 from pI4] at this; simp at this; omega⟩
  · exact a5 ⟨m, by have := h2; rw [show pairsI ((5 : Nat) : Int) = 10 from pI5] at this; simp at this; omega⟩
theorem edge_impl {n : Nat} (hn : n ≤ 5) {x : Fr} (h : 0 ≤ x.p ∧ x.p < x.q ∧ x.q < n) : edgeOk n (edgeW x) = true ∧ eA (edgeW x) = x.p ∧ eB (edgeW x) = x.q := by
  have hl : ∀ k, (decB k).data.toList = Go.Lib.itoa k := fun k => by simp [decB]
  have el : (edgeW x).data.toList = (decB x.p).data.toList ++ 45 :: (decB x.q).data.toList := by
    unfold edgeW
    rw [ByteArray.data_append, ByteArray.data_append, Array.toList_append, Array.toList_append]
    simp [dashB]
  have hc : Go.Lib.cut (edgeW x).data.toList dashB.data.toList = ((decB x.p).data.toList, (decB x.q).data.toList, true) := by
    unfold Go.Lib.cut
    have hi : Go.Lib.index (edgeW x).data.toList dashB.data.toList = ((decB x.p).data.toList).length := by
      rw [el]; exact index_atC 45 _ _ (decB_lacks h.1 (c := 45) (by decide))
    rw [hi, if_pos (by omega), el]
    have hs : dashB.data.toList.length = 1 := rfl
    rw [hs, Int.toNat_natCast]
    generalize (decB x.p).data.toList = la
    generalize (decB x.q).data.toList = lb
    simp
  have cA : cutA (edgeW x) dashB = decB x.p := by unfold cutA; rw [hc]
  have cB : cutB (edgeW x) dashB = decB x.q := by unfold cutB; rw [hc]
  have n1 := num_dec x.p (by omega) (by omega)
  have n2 := num_dec x.q (by omega) (by omega)
  have eAx : eA (edgeW x) = x.p := by unfold eA; rw [cA, n1.1]
  have eBx : eB (edgeW x) = x.q := by unfold eB; rw [cB, n2.1]
  refine ⟨?_, eAx, eBx⟩
  unfold edgeOk
  rw [eAx, eBx, cA, cB, n1.2, n2.2]
  unfold pairI
  simp; omega
theorem edge_spec {n : Nat} (hn : n ≤ 5) {x : Fr} (h : 0 ≤ x.p ∧ x.p < x.q ∧ x.q < n) : edgeS n (edgeW x) = true ∧ l01V (wA (edgeW x)) = x.p ∧ l01V (wB (edgeW x)) = x.q := by
  have hs : splitL (edgeW x) 45 = [decB x.p, decB x.q] := by
    have h1 := splitL_hit (decB_lacks h.1 (c := 45) (by decide)) (decB x.q)
    have h2 := splitL_miss (decB_lacks (n := x.q) (by omega) (c := 45) (by decide))
    have e45 : (((45 : UInt8).toNat : Nat) : Int) = 45 := rfl
    rw [e45] at h1 h2
    rw [h2] at h1
    exact h1
  have cA : wA (edgeW x) = decB x.p := by unfold wA; rw [hs]; rfl
  have cB : wB (edgeW x) = decB x.q := by unfold wB; rw [hs]; rfl
  have n1 := l01_dec x.p (by omega) (by omega)
  have n2 := l01_dec x.q (by omega) (by omega)
  refine ⟨?_, by rw [cA, n1.1], by rw [cB, n2.1]⟩
  unfold edgeS
  rw [hs, cA, cB, n1.1, n2.1, n1.2, n2.2]
  unfold pairI
  simp; omega
theorem goI_all {n : Nat} (hn : n ≤ 5) : ∀ (L : List Fr) (a : Nat), (∀ x ∈ L, 0 ≤ x.p ∧ x.p < x.q ∧ x.q < n) → goI n (L.map edgeW) a = some (orF a L)
  | [], a, _ => rfl
  | x :: L, a, h => by
    obtain ⟨h1, h2, h3⟩ := edge_impl hn (h x (List.mem_cons_self ..))
    rw [List.map_cons, goI, if_pos h1, h2, h3, goI_all hn L _ fun y hy => h y (List.mem_cons_of_mem _ hy)]
    rfl
theorem goS_all {n : Nat} (hn : n ≤ 5) : ∀ (L : List Fr) (a : Nat), (∀ x ∈ L, 0 ≤ x.p ∧ x.p < x.q ∧ x.q < n) → goS n (L.map edgeW) a = some (orF a L)
  | [], a, _ => rfl
  | x :: L, a, h => by
    obtain ⟨h1, h2, h3⟩ := edge_spec hn (h x (List.mem_cons_self ..))
    rw [List.map_cons, goS, if_pos h1, h2, h3, goS_all hn L _ fun y hy => h y (List.mem_cons_of_mem _ hy)]
    rfl
theorem reads_graph {n m : Nat} (h : graphOk n m = true) : rgO (grT m n) = some (n, m) ∧ rsO (grT m n) = some (n, m) := by
  have hn := graphOk_in h
  have hn5 : n ≤ 5 := by omega
  have hL := pairsE_lt m n
  have hor := orF_pairs h
  have eg : grT m n = graphB ++ (decB n ++ tailT (pairsE m n)) := by
    unfold grT; rw [edT_tail, ByteArray.append_assoc]
  have hlk : ∀ x ∈ pairsE m n, lacks (edgeW x) 32 := fun x hx => edgeW_lacks (by have := hL x hx; omega) (by have := hL x hx; omega)
  have hd : lacks (decB (n : Int)) 32 := decB_lacks (by omega) (by decide)
  have hgr : graphT n m = grT m n := by unfold graphT; rw [if_pos h, Int.toNat_natCast]
  have e32 : (((32 : UInt8).toNat : Nat) : Int) = 32 := rfl
  generalize hs : grT m n = s at *
  constructor
  · have el : s.data.toList = graphB.data.toList ++ (decB n ++ tailT (pairsE m n)).data.toList := by
      rw [eg, ByteArray.data_append, Array.toList_append]
    have hI : cpI s graphB = true := by
      unfold cpI Go.Lib.hasPrefix
      rw [el]; exact List.isPrefixOf_iff_prefix.2 (List.prefix_append _ _)
    have hA : cpA s graphB = decB n ++ tailT (pairsE m n) := by
      unfold cpA Go.Lib.trimPrefix
      have : Go.Lib.hasPrefix s.data.toList graphB.data.toList = true := hI
      rw [if_pos this, el, List.drop_left]
    have hW : wdI s = decB n :: (pairsE m n).map edgeW := by
      unfold wdI
      rw [hA]
      exact pieces_tail (Sp := fun s => piecesB s sepB) (fun a ha => pieces_miss ha) (fun a r ha => pieces_hit ha r) _ _ hd hlk
    have hh : hdI s = decB n := by unfold hdI; rw [hW]; rfl
    have hnum := num_dec n (by omega) (by omega)
    have hnI : nI s = (n : Int) := by unfold nI; rw [hh, hnum.1]
    have hok : okI s = true := by
      unfold okI
      rw [hI, hnI, hh, hnum.2]
      simp; omega
    unfold rgO
    rw [if_pos hok, hW, hnI, List.drop_succ_cons, List.drop_zero, goI_all hn5 _ _ hL, hor, Option.bind_some, Int.toNat_natCast, hs, beq_ba]
    rfl
  · have eg2 : s = gword ++ ⟨#[32]⟩ ++ (decB n ++ tailT (pairsE m n)) := by
      rw [eg]
      have : graphB = gword ++ ⟨#[32]⟩ := by apply ByteArray.ext; rfl
      rw [this]
    have hgl : lacks gword 32 := by
      intro b hb e
      subst e
      revert hb
      decide
    have hW : splitL s 32 = gword :: decB n :: (pairsE m n).map edgeW := by
      have h1 := splitL_hit hgl (decB n ++ tailT (pairsE m n))
      rw [e32, ← eg2] at h1
      rw [h1]
      congr 1
      exact pieces_tail (Sp := fun s => splitL s 32) (fun a ha => by have := splitL_miss ha; rw [e32] at this; exact this) (fun a r ha => by have := splitL_hit ha r; rw [e32] at this; exact this) _ _ hd hlk
    have h0 : h0S s = gword := by unfold h0S; rw [hW]; rfl
    have h1 : h1S s = decB n := by unfold h1S; rw [hW]; rfl
    have hnum := l01_dec n (by omega) (by omega)
    have hnS : nS s = (n : Int) := by unfold nS; rw [h1, hnum.1]
    have hok : okS s = true := by
      unfold okS
      rw [hW, h0, hnS, h1, hnum.2, beq_ba]
      simp; omega
    unfold rsO
    rw [if_pos hok, hW, hnS, List.drop_succ_cons, List.drop_succ_cons, List.drop_zero, goS_all hn5 _ _ hL, hor, Option.bind_some, Int.toNat_natCast, hgr, beq_ba]
    rfl
/-! ### agreement -/
theorem pairsE_mod (m b : Nat) : ∀ (j : Nat), j * (j - 1) / 2 ≤ b → j ≤ 5 → pairsE ((m % 2 ^ b : Nat) : Int) j = pairsE (m : Int) j
  | 0, _, _ => rfl
  | j + 1, hb, hj => by
    have h1 : j * (j - 1) / 2 ≤ b := by
      have : j = 0 ∨ j = 1 ∨ j = 2 ∨ j = 3 ∨ j = 4 := by omega
      rcases this with rfl | rfl | rfl | rfl | rfl <;> simp at hb ⊢ <;> omega
    rw [pairsE, pairsE, pairsE_mod m b j h1 (by omega)]
    congr 1
    unfold prE
    congr 1
    apply List.filter_congr
    intro i hi
    have hi := List.mem_range.1 hi
    unfold hasB
    rw [Int.toNat_natCast, Int.toNat_natCast, Nat.testBit_mod_two_pow]
    have : bitI ((i : Int)).toNat ((j : Int)).toNat < b := by
      rw [Int.toNat_natCast, Int.toNat_natCast]
      unfold bitI
      rw [if_pos hi]
      have : j = 0 ∨ j = 1 ∨ j = 2 ∨ j = 3 ∨ j = 4 := by omega
      rcases this with rfl | rfl | rfl | rfl | rfl <;> simp at hb ⊢ <;> omega
    simp only [Int.toNat_natCast] at this ⊢
    simp [this]
theorem grT_mod {n m : Nat} (hn : n ≤ 5) : ∃ k : Nat, graphOk n k = true ∧ grT k n = grT m n := by
  refine ⟨m % 2 ^ (pairsI n).toNat, ?_, ?_⟩
  · unfold graphOk
    refine decide_eq_true ⟨⟨by omega, by omega⟩, ?_⟩
    have := Nat.mod_lt m (Nat.two_pow_pos (pairsI n).toNat)
    exact_mod_cast this
  · unfold grT
    rw [pairsE_mod m _ n ?_ hn]
    have : n = 0 ∨ n = 1 ∨ n = 2 ∨ n = 3 ∨ n = 4 ∨ n = 5 := by omega
    rcases this with rfl | rfl | rfl | rfl | rfl | rfl <;> decide
theorem rgO_text {s : ByteArray} {n m : Nat} (h : rgO s = some (n, m)) : n ≤ 5 ∧ grT m n = s := by
  unfold rgO at h
  split at h
  · rename_i hok
    cases hg : goI (nI s) ((wdI s).drop 1) 0 with
    | none => rw [hg] at h; cases h
    | some k =>
      rw [hg, Option.bind_some] at h
      split at h
      · rename_i he
        rw [ba_eq, decide_eq_true_eq] at he
        injection h with h
        injection h with h1 h2
        subst h1; subst h2
        unfold okI at hok
        simp only [Bool.and_eq_true, decide_eq_true_eq] at hok
        exact ⟨by omega, he⟩
      · cases h
  · cases h
theorem rsO_text {s : ByteArray} {n m : Nat} (h : rsO s = some (n, m)) : graphOk n m = true ∧ grT m n = s := by
  unfold rsO at h
  split at h
  · rename_i hok
    cases hg : goS (nS s) ((splitL s 32).drop 2) 0 with
    | none => rw [hg] at h; cases h
    | some k =>
      rw [hg, Option.bind_some] at h
      split at h
      · rename_i he
        rw [ba_eq, decide_eq_true_eq] at he
        injection h with h
        injection h with h1 h2
        subst h1; subst h2
        have hpos : 0 ≤ nS s := by unfold nS; exact (l01V_in _).1
        have en : ((nS s).toNat : Int) = nS s := by omega
        rw [en]
        unfold graphT at he
        split at he
        · rename_i ho
          exact ⟨ho, he⟩
        · exfalso
          unfold okS at hok
          simp only [Bool.and_eq_true, decide_eq_true_eq] at hok
          have h2 := hok.1.1
          rw [← he] at h2
          have : (splitL noB 32).length = 1 := by decide
          omega
      · cases h
  · cases h
theorem graph_same (s : ByteArray) : rgO s = rsO s := by
  cases h1 : rgO s with
  | some p =>
    obtain ⟨n, m⟩ := p
    obtain ⟨hn, ht⟩ := rgO_text h1
    obtain ⟨k, hk, hkt⟩ := grT_mod (m := m) hn
    have := reads_graph hk
    rw [hkt, ht] at this
    rw [← h1, this.1, this.2]
  | none =>
    cases h2 : rsO s with
    | none => rfl
    | some p =>
      obtain ⟨n, m⟩ := p
      obtain ⟨ho, ht⟩ := rsO_text h2
      have := reads_graph ho
      rw [ht, h1] at this
      cases this.1
end Go.Proofs.YtgiakpeneckgfaaGreatDoorAi
end
