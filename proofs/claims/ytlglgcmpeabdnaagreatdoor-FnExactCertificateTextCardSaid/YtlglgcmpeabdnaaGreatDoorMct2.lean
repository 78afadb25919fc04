/- Contracts, joined. -/
import Derived.Test.YtlglgcmpeabdnaaGreatDoorMct1
import Derived.Test.YtlglgcmpeabdnaaGreatDoorShelfA
import Derived.Test.YtlglgcmpeabdnaaGreatDoorAiX
import Derived.Test.YtlglgcmpeabdnaaGreatDoorProg
import Derived.Test.YtlglgcmpeabdnaaGreatDoorShelfB
section
/- Contracts: numerals, texts of fractions. -/
namespace Go.Proofs.YtlglgcmpeabdnaaGreatDoorAi
open Go Go.RowKit
set_option linter.unusedVariables false
set_option linter.unusedSimpArgs false
set_option maxRecDepth 20000

@[simp] theorem ba_size (a : Array UInt8) : (ByteArray.mk a).size = a.size := rfl
/-- The numeral of a number. -/
def decB (n : Int) : ByteArray := ⟨(Go.Lib.itoa n).toArray⟩
theorem decB_small {n : Int} (h0 : 0 ≤ n) (h1 : n < 10) : decB n = ⟨[UInt8.ofNat (48 + n.toNat)].toArray⟩ := by
  unfold decB Go.Lib.itoa
  rw [if_neg (by omega), Go.Lib.decDigits, dif_pos (by omega)]
theorem decB_step {n : Int} (h : 10 ≤ n) : decB n = decB (n.tdiv 10) ++ ⟨[UInt8.ofNat (48 + (n.tmod 10).toNat)].toArray⟩ := by
  have e1 : (n.tdiv 10).toNat = n.toNat / 10 := by
    rw [Int.tdiv_eq_ediv_of_nonneg (by omega)]; omega
  have e2 : (n.tmod 10).toNat = n.toNat % 10 := by
    rw [Int.tmod_eq_emod_of_nonneg (by omega)]; omega
  unfold decB Go.Lib.itoa
  rw [if_neg (by omega), if_neg (by rw [Int.tdiv_eq_ediv_of_nonneg (by omega)]; omega), e1, e2, Go.Lib.decDigits, dif_neg (by omega)]
  apply ByteArray.ext
  simp
theorem decB_neg {n : Int} (h : n < 0) : decB n = ⟨[45].toArray⟩ ++ decB (n.natAbs : Int) := by
  unfold decB Go.Lib.itoa
  rw [if_pos h, if_neg (by omega)]
  apply ByteArray.ext
  simp
theorem nDig_le : ∀ (k u : Nat), u < 10 ^ (k + 1) → Go.Lib.nDigits u ≤ k + 1
  | 0, u, h => by rw [Go.Lib.nDigits_small (by simpa using h)]; omega
  | k + 1, u, h => by
    by_cases hu : u < 10
    · rw [Go.Lib.nDigits_small hu]; omega
    · rw [Go.Lib.nDigits_big hu]
      have := nDig_le k (u / 10) (by rw [Nat.pow_succ] at h; omega)
      omega
theorem decB_size (n : Int) (h0 : -9223372036854775808 ≤ n) (h1 : n ≤ 9223372036854775807) : (decB n).size ≤ 21 := by
  have hl : (Go.Lib.itoa n).length ≤ 21 := by
    unfold Go.Lib.itoa
    split
    · have := nDig_le 19 n.natAbs (by omega)
      rw [List.length_cons, Go.Lib.decDigits_length]; omega
    · have := nDig_le 19 n.toNat (by omega)
      rw [Go.Lib.decDigits_length]; omega
  unfold decB
  simpa [ByteArray.size] using hl

noncomputable def sp_decK (k : Nat) : List AV → Option AV := pf (ι := Int) (α := AV) (fun n => 0 ≤ n ∧ n < 10 ^ k ∧ n ≤ 9223372036854775807) (fun n => [.int .i64 n]) (fun n => .str (decB n))
theorem sp_decK_eq (k : Nat) (n : Int) (h : 0 ≤ n ∧ n < 10 ^ k ∧ n ≤ 9223372036854775807) : sp_decK k [.int .i64 n] = some (.str (decB n)) := by
  unfold sp_decK
  exact pf_eq (ι := Int) (α := AV) n h (by rintro n' _ e; simp_all)
theorem wrap_dig {d : Int} (h0 : 0 ≤ d) (h1 : d < 10) : IntKind.wrap .u8 (48 + d) = 48 + d := by
  simp [IntKind.wrap, IntKind.signed, IntKind.bits]; omega
theorem wrap_dig' {d : Int} (h0 : 0 ≤ d) (h1 : d < 10) : IntKind.wrap .i64 (48 + d) = 48 + d := by
  simp [IntKind.wrap, IntKind.signed, IntKind.bits]; omega
theorem q_decK : ∀ k, QP PP 78 (sp_decK k) := by
  intro k
  induction k with
  | zero =>
    refine QP_pf (fun n h => ?_) fun n h => ?_
    · exact ⟨by first | rfl | simp, by first | rfl | simp⟩
    replace h : 0 ≤ n ∧ n < 10 ^ 0 ∧ n ≤ 9223372036854775807 := h
    obtain rfl : n = 0 := by omega
    refine P_code Quiet.nil hmix k_spec_Decimal rfl ?_ ?_
    · first | rfl | simp
    show wpc 0 PP _ c_spec_Decimal (initSt [.int .i64 0] .nil) (endP r_spec_Decimal (.str (decB 0)))
    have w : IntKind.wrap .u8 48 = 48 := rfl
    have w' : IntKind.wrap .i64 48 = 48 := rfl
    rw [decB_small (by decide) (by decide)]
    simp -dsimp -implicitDefEqProofs [c_spec_Decimal, r_spec_Decimal, w, w']
  | succ k ih =>
    refine QP_pf (fun n h => ?_) fun n h => ?_
    · exact ⟨by first | rfl | simp, by first | rfl | simp⟩
    replace h : 0 ≤ n ∧ n < 10 ^ (k + 1) ∧ n ≤ 9223372036854775807 := h
    refine P_code (Quiet.q1 ih Quiet.nil) hmix k_spec_Decimal rfl ?_ ?_
    · first | rfl | simp
    show wpc 0 PP _ c_spec_Decimal (initSt [.int .i64 n] .nil) (endP r_spec_Decimal (.str (decB n)))
    by_cases hn : 10 ≤ n
    · have hb : decide (10 ≤ n) = true := decide_eq_true hn
      have em : 0 ≤ n.tmod 10 ∧ n.tmod 10 < 10 := by rw [Int.tmod_eq_emod_of_nonneg (by omega)]; omega
      have ed : 0 ≤ n.tdiv 10 ∧ n.tdiv 10 < 10 ^ k ∧ n.tdiv 10 ≤ 9223372036854775807 := by
        rw [Int.tdiv_eq_ediv_of_nonneg (by omega)]
        have : (10 : Int) ^ (k + 1) = 10 ^ k * 10 := Int.pow_succ ..
        omega
      have w := wrap_dig em.1 em.2
      have w' := wrap_dig' em.1 em.2
      have b1 : 0 ≤ 48 + n.tmod 10 := by omega
      have b2 : 48 + n.tmod 10 < 256 := by omega
      have b3 : (48 + n.tmod 10).toNat = 48 + (n.tmod 10).toNat := by omega
      have hc := sp_decK_eq k _ ed
      have hs := decB_size (n.tdiv 10) (by omega) (by omega)
      have wd : IntKind.wrap .i64 (n.tdiv 10) = n.tdiv 10 := by simp [IntKind.wrap, IntKind.signed, IntKind.bits]; omega
      have wm : IntKind.wrap .i64 (n.tmod 10) = n.tmod 10 := by simp [IntKind.wrap, IntKind.signed, IntKind.bits]; omega
      have hz : (decB (n.tdiv 10)).size + 1 ≤ 9223372036854775807 := by omega
      rw [decB_step hn]
      simp -dsimp -implicitDefEqProofs [c_spec_Decimal, r_spec_Decimal, hb, w, w', b1, b2, b3, hc, wd, wm, hz]
    · have hb : decide (10 ≤ n) = false := decide_eq_false hn
      have w := wrap_dig (d := n) (by omega) (by omega)
      have w' := wrap_dig' (d := n) (by omega) (by omega)
      have b1 : 0 ≤ 48 + n := by omega
      have b2 : 48 + n < 256 := by omega
      have b3 : (48 + n).toNat = 48 + n.toNat := by omega
      rw [decB_small (by omega) (by omega)]
      simp -dsimp -implicitDefEqProofs [c_spec_Decimal, r_spec_Decimal, hb, w, w', b1, b2, b3]
noncomputable def sp_decS : List AV → Option (AV) := pf (ι := (Int)) (α := AV) (fun n => 0 ≤ n ∧ n ≤ 9223372036854775807) (fun n => [.int .i64 n]) (fun n => .str (decB n))
theorem sp_decS_eq (n : Int) (h : 0 ≤ n ∧ n ≤ 9223372036854775807) : sp_decS [.int .i64 n] = some (.str (decB n)) := by
  unfold sp_decS
  exact pf_eq (ι := (Int)) (α := AV) n h (by rintro n' _ e; simp_all [Int.natCast_inj])
theorem q_spec_Decimal : QP PP 78 sp_decS := by
  intro args r e
  obtain ⟨n, h, rfl, rfl⟩ : ∃ n : Int, (0 ≤ n ∧ n ≤ 9223372036854775807) ∧ args = [.int .i64 n] ∧ r = .str (decB n) := by
    unfold sp_decS pf at e
    split at e
    · rename_i hx
      injection e with e
      refine ⟨Classical.choose hx, (Classical.choose_spec hx).1, ?_, e.symm⟩
      first | exact (Classical.choose_spec hx).2 | exact (Classical.choose_spec hx).2.symm
    · cases e
  exact q_decK 19 _ _ (sp_decK_eq 19 n ⟨h.1, by omega, h.2⟩)
end Go.Proofs.YtlglgcmpeabdnaaGreatDoorAi
end

section
/- Contracts: the numeral of the program, texts of fractions. -/
namespace Go.Proofs.YtlglgcmpeabdnaaGreatDoorAi
open Go Go.RowKit
set_option linter.unusedVariables false
set_option linter.unusedSimpArgs false
set_option maxRecDepth 20000

noncomputable def sp_formatI : List AV → Option (AV) := pf (ι := (Int)) (α := AV) (fun n => -9223372036854775808 ≤ n ∧ n ≤ 9223372036854775807) (fun n => [.int .i64 n, .int .i64 10]) (fun n => .str (decB n))
theorem sp_formatI_eq (n : Int) (h : -9223372036854775808 ≤ n ∧ n ≤ 9223372036854775807) : sp_formatI [.int .i64 n, .int .i64 10] = some (.str (decB n)) := by
  unfold sp_formatI
  exact pf_eq (ι := (Int)) (α := AV) n h (by rintro n' _ e; simp_all [Int.natCast_inj])
theorem below_grown' (w : World) (k : Nat) (os : Array Obj) : Below w.heap.size w (Go.Sort.grow (w.drewN k) os) :=
  ⟨rfl, rfl, rfl, by show w.heap.size ≤ (w.heap ++ os).size; rw [Array.size_append]; omega, fun j hj => by show (w.heap ++ os)[j]? = _; rw [Array.getElem?_append_left hj]⟩
theorem q_internal_strconv_FormatInt : QP PP 148 sp_formatI := by
  refine QP_pf (fun n h => ?_) fun n h => ?_
  · exact ⟨by first | rfl | simp, by first | rfl | simp⟩
  replace h : -9223372036854775808 ≤ n ∧ n ≤ 9223372036854775807 := h
  refine T.lib ⟨_, Tryz.func148, by kernel_rfl, by kernel_rfl⟩ (fun σ w vs hr hG => ?_) .nil
  obtain ⟨v1, us, rfl, h1, h2⟩ := hr.head
  obtain ⟨v2, us2, rfl, h3, h4⟩ := h2.head
  obtain rfl : us2 = [] := List.eq_nil_of_length_eq_zero h4.1.symm
  cases h1; cases h3
  refine (Tryz.internal_strconv_FormatInt_10 n h.1 h.2 w (hG.tab (by kernel_rfl))).mono ?_
  rintro e w' ⟨rfl, k, os, rfl⟩
  exact ⟨_, rfl, below_grown' w k os, .str _⟩
theorem q_strconv_FormatInt : QP PP 105 sp_formatI := by
  refine QP_pf (fun n h => ?_) fun n h => ?_
  · exact ⟨by first | rfl | simp, by first | rfl | simp⟩
  replace h : -9223372036854775808 ≤ n ∧ n ≤ 9223372036854775807 := h
  refine P_code (Quiet.q1 q_internal_strconv_FormatInt Quiet.nil) hmix k_strconv_FormatInt rfl ?_ ?_
  · first | rfl | simp
  show wpc 0 PP _ c_strconv_FormatInt (initSt [.int .i64 n, .int .i64 10] .nil) (endP r_strconv_FormatInt (.str (decB n)))
  simp -dsimp -implicitDefEqProofs [c_strconv_FormatInt, r_strconv_FormatInt, sp_formatI_eq n h]
noncomputable def sp_decimal : List AV → Option (AV) := pf (ι := (Int)) (α := AV) (fun n => -9223372036854775808 ≤ n ∧ n ≤ 9223372036854775807) (fun n => [.int .i64 n]) (fun n => .str (decB n))
theorem sp_decimal_eq (n : Int) (h : -9223372036854775808 ≤ n ∧ n ≤ 9223372036854775807) : sp_decimal [.int .i64 n] = some (.str (decB n)) := by
  unfold sp_decimal
  exact pf_eq (ι := (Int)) (α := AV) n h (by rintro n' _ e; simp_all [Int.natCast_inj])
theorem q_impl_decimal : QP PP 50 sp_decimal := by
  refine QP_pf (fun n h => ?_) fun n h => ?_
  · exact ⟨by first | rfl | simp, by first | rfl | simp⟩
  replace h : -9223372036854775808 ≤ n ∧ n ≤ 9223372036854775807 := h
  refine P_code (Quiet.q1 q_strconv_FormatInt Quiet.nil) hmix k_impl_decimal rfl ?_ ?_
  · first | rfl | simp
  show wpc 0 PP _ c_impl_decimal (initSt [.int .i64 n] .nil) (endP r_impl_decimal (.str (decB n)))
  simp -dsimp -implicitDefEqProofs [c_impl_decimal, r_impl_decimal, sp_formatI_eq n h]

def slashB : ByteArray := ⟨#[47]⟩
def noB : ByteArray := ⟨#[]⟩
def frT (p q : Int) : ByteArray := if q = 1 then decB p else decB p ++ slashB ++ decB q
noncomputable def sp_frText : List AV → Option (AV) := pf (ι := (Int) × (Int)) (α := AV) (fun ⟨p, q⟩ => (-9223372036854775808 ≤ p ∧ p ≤ 9223372036854775807) ∧ (-9223372036854775808 ≤ q ∧ q ≤ 9223372036854775807)) (fun ⟨p, q⟩ => [.agg [.int .i64 p, .int .i64 q]]) (fun ⟨p, q⟩ => .str (frT p q))
theorem sp_frText_eq (p q : Int) (h : (-9223372036854775808 ≤ p ∧ p ≤ 9223372036854775807) ∧ (-9223372036854775808 ≤ q ∧ q ≤ 9223372036854775807)) : sp_frText [.agg [.int .i64 p, .int .i64 q]] = some (.str (frT p q)) := by
  unfold sp_frText
  exact pf_eq (ι := (Int) × (Int)) (α := AV) (p, q) h (by rintro ⟨p', q'⟩ _ e; simp_all [Int.natCast_inj])
theorem q_impl_Fraction_text : QP PP 134 sp_frText := by
  refine QP_pf (fun i h => ?_) fun i h => ?_
  · obtain ⟨p, q⟩ := i; exact ⟨by first | rfl | simp, by first | rfl | simp⟩
  obtain ⟨p, q⟩ := i
  replace h : (-9223372036854775808 ≤ p ∧ p ≤ 9223372036854775807) ∧ (-9223372036854775808 ≤ q ∧ q ≤ 9223372036854775807) := h
  refine P_code (Quiet.q1 q_impl_decimal Quiet.nil) hmix k_impl_Fraction_text rfl ?_ ?_
  · first | rfl | simp
  show wpc 0 PP _ c_impl_Fraction_text (initSt [.agg [.int .i64 p, .int .i64 q]] .nil) (endP r_impl_Fraction_text (.str (frT p q)))
  have hp := sp_decimal_eq p h.1
  have hq := sp_decimal_eq q h.2
  have sp := decB_size p h.1.1 h.1.2
  have sq := decB_size q h.2.1 h.2.2
  by_cases hone : q = 1
  · subst hone
    simp -dsimp -implicitDefEqProofs [c_impl_Fraction_text, r_impl_Fraction_text, hp, frT]
  · have hb : (q == 1) = false := by simpa using hone
    have s1 : (decB p).size + 1 ≤ 9223372036854775807 := by omega
    have s2 : (decB p).size + 1 + (decB q).size ≤ 9223372036854775807 := by omega
    simp -dsimp -implicitDefEqProofs [c_impl_Fraction_text, r_impl_Fraction_text, hp, hq, hb, s1, s2, frT, hone, slashB]
end Go.Proofs.YtlglgcmpeabdnaaGreatDoorAi
end

section
/- Contracts and law: FractionText. -/
namespace Go.Proofs.YtlglgcmpeabdnaaGreatDoorAi
open Go Go.RowKit
set_option linter.unusedVariables false
set_option linter.unusedSimpArgs false
set_option maxRecDepth 20000

theorem frOk_bd {p q : Int} (h : frOk p q = true) : (-1000000000 ≤ p ∧ p ≤ 1000000000) ∧ (1 ≤ q ∧ q ≤ 1000000000) := by
  unfold frOk at h
  have := of_decide_eq_true h
  exact ⟨this.1, this.2.1⟩
def fracT (p q : Int) : ByteArray := if frOk p q = true then frT p q else noB
noncomputable def sp_fracText : List AV → Option (AV) := pf (ι := (Int) × (Int)) (α := AV) (fun ⟨p, q⟩ => True) (fun ⟨p, q⟩ => [.agg [.int .i64 p, .int .i64 q]]) (fun ⟨p, q⟩ => .str (fracT p q))
theorem sp_fracText_eq (p q : Int) : sp_fracText [.agg [.int .i64 p, .int .i64 q]] = some (.str (fracT p q)) := by
  unfold sp_fracText
  exact pf_eq (ι := (Int) × (Int)) (α := AV) (p, q) trivial (by rintro ⟨p', q'⟩ _ e; simp_all [Int.natCast_inj])
attribute [simp] sp_fracText_eq
theorem q_spec_FractionText : QP PP 71 sp_fracText := by
  refine QP_pf (fun i h => ?_) fun i h => ?_
  · obtain ⟨p, q⟩ := i; exact ⟨by first | rfl | simp, by first | rfl | simp⟩
  obtain ⟨p, q⟩ := i
  replace h : True := h
  refine P_code (Quiet.q1 q_spec_l02Ok (Quiet.q1 q_spec_l02Abs (Quiet.q1 q_spec_Decimal Quiet.nil))) hmix k_spec_FractionText rfl ?_ ?_
  · first | rfl | simp
  show wpc 0 PP _ c_spec_FractionText (initSt [.agg [.int .i64 p, .int .i64 q]] .nil) (endP r_spec_FractionText (.str (fracT p q)))
  cases hf : frOk p q with
  | false => simp -dsimp -implicitDefEqProofs [c_spec_FractionText, r_spec_FractionText, hf, fracT, noB]
  | true =>
    have hb := frOk_bd hf
    have ha := sp_size_eq p (by omega)
    have hd := sp_decS_eq p.natAbs (by omega)
    have hd2 := sp_decS_eq q (by omega)
    have s0 := decB_size p.natAbs (by omega) (by omega)
    have s2 := decB_size q (by omega) (by omega)
    have z1 : 1 + (decB p.natAbs).size ≤ 9223372036854775807 := by omega
    have z2 : 1 + (decB q).size ≤ 9223372036854775807 := by omega
    have z3 : (decB p.natAbs).size + (1 + (decB q).size) ≤ 9223372036854775807 := by omega
    have z4 : 1 + (decB p.natAbs).size + (1 + (decB q).size) ≤ 9223372036854775807 := by omega
    by_cases hp : p < 0
    · by_cases hq : q = 1
      · subst hq
        simp -dsimp -implicitDefEqProofs [c_spec_FractionText, r_spec_FractionText, hf, fracT, frT, ha, hd, hp, decB_neg hp, z1]
      · have hqb : (q != 1) = true := by simpa using hq
        simp -dsimp -implicitDefEqProofs [c_spec_FractionText, r_spec_FractionText, hf, fracT, frT, ha, hd, hd2, hp, hq, hqb, decB_neg hp, z1, z2, z4, slashB, ByteArray.append_assoc]
    · have e0 : ((p.natAbs : Nat) : Int) = p := by omega
      rw [e0] at hd s0 z1 z3 z4 ha
      by_cases hq : q = 1
      · subst hq
        simp -dsimp -implicitDefEqProofs [c_spec_FractionText, r_spec_FractionText, hf, fracT, frT, ha, hd, hp, z1]
      · have hqb : (q != 1) = true := by simpa using hq
        simp -dsimp -implicitDefEqProofs [c_spec_FractionText, r_spec_FractionText, hf, fracT, frT, ha, hd, hd2, hp, hq, hqb, z1, z2, z3, slashB, ByteArray.append_assoc]
theorem beq_ba (a : ByteArray) : (a == a) = true := by show (a.data == a.data) = true; simp
theorem bne_ba (a : ByteArray) : (a != a) = false := by unfold bne; rw [beq_ba]; rfl
end Go.Proofs.YtlglgcmpeabdnaaGreatDoorAi
end

section
/- Contracts and laws: GraphText, FlagText. -/
namespace Go.Proofs.YtlglgcmpeabdnaaGreatDoorAi
open Go Go.RowKit
set_option linter.unusedVariables false
set_option linter.unusedSimpArgs false
set_option maxRecDepth 20000

theorem getF0 (l : List Fr) (i : Nat) (h : i < l.length) (h2 : i * 2 < (flatA (frsA l)).length) : (flatA (frsA l))[i * 2] = .int .i64 l[i].p := by
  have := get_fr0 l i h
  rw [List.getElem?_eq_getElem h2] at this
  exact Option.some.inj this
theorem getF1 (l : List Fr) (i : Nat) (h : i < l.length) (h2 : i * 2 + 1 < (flatA (frsA l)).length) : (flatA (frsA l))[i * 2 + 1] = .int .i64 l[i].q := by
  have := get_fr1 l i h
  rw [List.getElem?_eq_getElem h2] at this
  exact Option.some.inj this
def sepB : ByteArray := ⟨#[32]⟩
def dashB : ByteArray := ⟨#[45]⟩
def graphB : ByteArray := ⟨#[103, 114, 97, 112, 104, 32]⟩
def edgeT (p q : Int) : ByteArray := sepB ++ decB p ++ dashB ++ decB q
def edT (w : ByteArray) (L : List Fr) : ByteArray := L.foldl (fun w x => w ++ edgeT x.p x.q) w
theorem edT_snoc (w : ByteArray) (L : List Fr) (i : Nat) (h : i < L.length) : edT w (L.take (i + 1)) = edT w (L.take i) ++ edgeT L[i].p L[i].q := by
  rw [take_snoc L i h]; unfold edT; rw [List.foldl_append]; rfl
theorem edgeT_size {p q : Int} (hp : -9223372036854775808 ≤ p ∧ p ≤ 9223372036854775807) (hq : -9223372036854775808 ≤ q ∧ q ≤ 9223372036854775807) : (edgeT p q).size ≤ 44 := by
  have h1 := decB_size p hp.1 hp.2
  have h2 := decB_size q hq.1 hq.2
  have h3 : sepB.size = 1 := rfl
  have h4 : dashB.size = 1 := rfl
  unfold edgeT
  simp only [ByteArray.size_append]
  omega
theorem edT_size (w : ByteArray) (L : List Fr) (hL : ∀ x ∈ L, (0 ≤ x.p ∧ x.p < 5) ∧ (0 ≤ x.q ∧ x.q < 5)) : (edT w L).size ≤ w.size + L.length * 44 := by
  induction L generalizing w with
  | nil => simp [edT]
  | cons x L ih =>
    have hx := hL x (List.mem_cons_self ..)
    have h1 := ih (w ++ edgeT x.p x.q) fun y hy => hL y (List.mem_cons_of_mem _ hy)
    have h2 := edgeT_size (p := x.p) (q := x.q) (by omega) (by omega)
    show (edT (w ++ edgeT x.p x.q) L).size ≤ _
    rw [ByteArray.size_append] at h1
    rw [List.length_cons]
    omega
theorem prE_in {e : Int} {j k : Nat} (hj : j < 5) (hk : k ≤ 5) : ∀ x ∈ prE e j k, (0 ≤ x.p ∧ x.p < 5) ∧ (0 ≤ x.q ∧ x.q < 5) := by
  intro x hx
  unfold prE at hx
  obtain ⟨i, hi, rfl⟩ := List.mem_map.1 hx
  have := List.mem_range.1 (List.mem_filter.1 hi).1
  simp only
  omega
theorem pairsE_in (e : Int) : ∀ (j : Nat), j ≤ 5 → ∀ x ∈ pairsE e j, (0 ≤ x.p ∧ x.p < 5) ∧ (0 ≤ x.q ∧ x.q < 5)
  | 0, _ => by intro x hx; cases hx
  | j + 1, hj => by
    intro x hx
    rw [pairsE] at hx
    rcases List.mem_append.1 hx with hx | hx
    · exact pairsE_in e j (by omega) x hx
    · exact prE_in (by omega) (by omega) x hx
def grT (e : Int) (n : Nat) : ByteArray := edT (graphB ++ decB n) (pairsE e n)
theorem grT_len {e : Int} {n : Nat} (h : n ≤ 5) : (pairsE e n).length ≤ 25 := Nat.le_trans (pairsE_len e n) (Nat.mul_le_mul h h)
theorem edT_take {e : Int} {n : Nat} (h : n ≤ 5) (i : Nat) : (edT (graphB ++ decB n) ((pairsE e n).take i)).size ≤ 1200 := by
  have h1 := edT_size (graphB ++ decB n) ((pairsE e n).take i) fun x hx => pairsE_in e n h x (List.mem_of_mem_take hx)
  have h2 := grT_len (e := e) h
  have h3 : ((pairsE e n).take i).length ≤ (pairsE e n).length := by rw [List.length_take]; omega
  have h4 := decB_size n (by omega) (by omega)
  have h5 : graphB.size = 6 := rfl
  rw [ByteArray.size_append] at h1
  omega
noncomputable def sp_graphTx : List AV → Option (AV) := pf (ι := (Nat) × (Int)) (α := AV) (fun ⟨n, e⟩ => n ≤ 5 ∧ 0 ≤ e ∧ e ≤ 4294967295) (fun ⟨n, e⟩ => [.agg [.int .i64 n, .int .u32 e]]) (fun ⟨n, e⟩ => .str (grT e n))
theorem sp_graphTx_eq (n : Nat) (e : Int) (h : n ≤ 5 ∧ 0 ≤ e ∧ e ≤ 4294967295) : sp_graphTx [.agg [.int .i64 n, .int .u32 e]] = some (.str (grT e n)) := by
  unfold sp_graphTx
  exact pf_eq (ι := (Nat) × (Int)) (α := AV) (n, e) h (by rintro ⟨n', e'⟩ _ e; simp_all [Int.natCast_inj])
theorem q_impl_Graph_text : QP PP 84 sp_graphTx := by
  refine QP_pf (fun i h => ?_) fun i h => ?_
  · obtain ⟨n, e⟩ := i; exact ⟨by first | rfl | simp, by first | rfl | simp⟩
  obtain ⟨n, e⟩ := i
  replace h : n ≤ 5 ∧ 0 ≤ e ∧ e ≤ 4294967295 := h
  refine P_code (Quiet.q1 q_impl_decimal (Quiet.e1 n_impl_Graph_edges.toE Quiet.nil)) hmix k_impl_Graph_text rfl ?_ ?_
  · first | rfl | simp
  show wpc 0 PP _ c_impl_Graph_text (initSt [.agg [.int .i64 n, .int .u32 e]] .nil) (endP r_impl_Graph_text (.str (grT e n)))
  have hd := sp_decimal_eq n (by omega)
  have hs := decB_size n (by omega) (by omega)
  have he := sp_edges_eq n e h
  have z0 : 6 + (decB n).size ≤ 9223372036854775807 := by omega
  have hin := pairsE_in e n h.1
  have hlen := grT_len (e := e) h.1
  unfold pairsR at he
  unfold grT
  by_cases hL : pairsE e n = []
  · rw [hL, lvE_nil, obE_nil] at he
    rw [hL]
    simp -dsimp -implicitDefEqProofs [c_impl_Graph_text, r_impl_Graph_text, hd, he, z0]
    refine wpLoop_st (fun (_ : Unit) => ⟨tl [(3, .str (graphB ++ decB n)), (11, .sl [] true), (12, .int .i64 0), (13, .int .i64 0)], ⟨[]⟩⟩) (fun _ => True) (fun _ => 0) () trivial (Sub.keep (by simp) (by simp [hsub]) (by simp [graphB])) ?_
    intro i hi
    simp -dsimp -implicitDefEqProofs [edT]
  · have ht := fun i => edT_take (e := e) h.1 i
    generalize pairsE e n = L at *
    rw [lvE_cons hL, obE_cons hL] at he
    simp -dsimp -implicitDefEqProofs [c_impl_Graph_text, r_impl_Graph_text, hd, he, z0]
    refine wpLoop_st (fun (i : Nat) => ⟨tl [(3, .str (edT (graphB ++ decB n) (L.take i))), (11, .ref 1 2 0 L.length .full), (12, .int .i64 L.length), (13, .int .i64 i)], ⟨[some [.int .i64 n, .int .u32 e], some (flatA (frsA L))]⟩⟩) (fun i => i ≤ L.length) (fun i => L.length - i) 0 (by omega) (Sub.keep (by simp) (by simp [hsub]) (by simp [graphB, edT])) ?_
    intro i hi
    simp -dsimp -implicitDefEqProofs
    refine brW_of (fun h2 => ?_) (fun h2 => ?_) <;> simp only [decide_eq_true_eq, decide_eq_false_iff_not] at h2
    · have hx : i < L.length := by omega
      have hwi := wrapNat (i := i) (by omega)
      have hm := hin L[i] (List.getElem_mem hx)
      have hp := sp_decimal_eq L[i].p (by omega)
      have hq := sp_decimal_eq L[i].q (by omega)
      have hes := edT_snoc (graphB ++ decB n) L i hx
      have ht1 := ht i
      have q0 := get_fr0 L i hx
      have q1 := get_fr1 L i hx
      have g0 := getF0 L i hx (by simp; omega)
      have g1 := getF1 L i hx (by simp; omega)
      have sp := decB_size L[i].p (by omega) (by omega)
      have sq := decB_size L[i].q (by omega) (by omega)
      have z1 : 1 + (decB L[i].p).size ≤ 9223372036854775807 := by omega
      have z2 : 1 + (decB L[i].p).size + 1 ≤ 9223372036854775807 := by omega
      have z3 : 1 + (decB L[i].p).size + 1 + (decB L[i].q).size ≤ 9223372036854775807 := by omega
      have z4 : (edT (graphB ++ decB n) (L.take i)).size + (1 + (decB L[i].p).size + 1 + (decB L[i].q).size) ≤ 9223372036854775807 := by omega
      simp -dsimp -implicitDefEqProofs [hx, hp, hq, hwi, g0, g1, q0, q1, z1, z2, z3, z4]
      exact .mk (i + 1) (by omega) (by omega) (Sub.keep (by simp) (by simp [hsub]) (by simp [hes, edgeT, sepB, dashB, hwi]))
    · obtain rfl : i = L.length := by omega
      simp -dsimp -implicitDefEqProofs
theorem graphOk_in {n e : Int} (h : graphOk n e = true) : 0 ≤ n ∧ n ≤ 5 := by
  unfold graphOk at h
  exact (of_decide_eq_true h).1
def graphT (n e : Int) : ByteArray := if graphOk n e = true then grT e n.toNat else noB
noncomputable def sp_graphText : List AV → Option (AV) := pf (ι := (Int) × (Int)) (α := AV) (fun ⟨n, e⟩ => 0 ≤ e ∧ e ≤ 4294967295) (fun ⟨n, e⟩ => [.agg [.int .i64 n, .int .u32 e]]) (fun ⟨n, e⟩ => .str (graphT n e))
theorem sp_graphText_eq (n e : Int) (h : 0 ≤ e ∧ e ≤ 4294967295) : sp_graphText [.agg [.int .i64 n, .int .u32 e]] = some (.str (graphT n e)) := by
  unfold sp_graphText
  exact pf_eq (ι := (Int) × (Int)) (α := AV) (n, e) h (by rintro ⟨n', e'⟩ _ e; simp_all [Int.natCast_inj])
theorem q_spec_GraphText : QP PP 68 sp_graphText := by
  refine QP_pf (fun i h => ?_) fun i h => ?_
  · obtain ⟨n, e⟩ := i; exact ⟨by first | rfl | simp, by first | rfl | simp⟩
  obtain ⟨n, e⟩ := i
  replace h : 0 ≤ e ∧ e ≤ 4294967295 := h
  refine P_code (Quiet.q1 q_spec_l01Ok (Quiet.q1 q_spec_Decimal (Quiet.e1 n_spec_l01Pairs.toE Quiet.nil))) hmix k_spec_GraphText rfl ?_ ?_
  · first | rfl | simp
  show wpc 0 PP _ c_spec_GraphText (initSt [.agg [.int .i64 n, .int .u32 e]] .nil) (endP r_spec_GraphText (.str (graphT n e)))
  have ho := sp_graphOk_eq n e h
  cases hf : graphOk n e with
  | false =>
    rw [hf] at ho
    simp -dsimp -implicitDefEqProofs [c_spec_GraphText, r_spec_GraphText, ho, hf, graphT, noB]
  | true =>
    rw [hf] at ho
    have hn := graphOk_in hf
    obtain ⟨m, rfl⟩ := Int.eq_ofNat_of_zero_le hn.1
    have hm5 : m ≤ 5 := by omega
    have hd := sp_decS_eq m (by omega)
    have hs := decB_size m (by omega) (by omega)
    have he := sp_edges_eq m e ⟨hm5, h⟩
    have z0 : 6 + (decB m).size ≤ 9223372036854775807 := by omega
    have hin := pairsE_in e m hm5
    have hlen := grT_len (e := e) hm5
    unfold pairsR at he
    unfold graphT
    rw [if_pos hf, Int.toNat_natCast]
    unfold grT
    by_cases hL : pairsE e m = []
    · rw [hL, lvE_nil, obE_nil] at he
      rw [hL]
      simp -dsimp -implicitDefEqProofs [c_spec_GraphText, r_spec_GraphText, ho, hd, he, z0]
      refine wpLoop_st (fun (_ : Unit) => ⟨tl [(3, .str (graphB ++ decB m)), (4, .sl [] true), (5, .int .i64 0)], ⟨[]⟩⟩) (fun _ => True) (fun _ => 0) () trivial (Sub.keep (by simp) (by simp [hsub]) (by simp [graphB])) ?_
      intro i hi
      simp -dsimp -implicitDefEqProofs [edT]
    · have ht := fun i => edT_take (e := e) hm5 i
      generalize pairsE e m = L at *
      rw [lvE_cons hL, obE_cons hL] at he
      simp -dsimp -implicitDefEqProofs [c_spec_GraphText, r_spec_GraphText, ho, hd, he, z0]
      refine wpLoop_st (fun (i : Nat) => ⟨tl [(3, .str (edT (graphB ++ decB m) (L.take i))), (4, .ref 1 2 0 L.length .full), (5, .int .i64 i)], ⟨[some [.int .i64 m, .int .u32 e], some (flatA (frsA L))]⟩⟩) (fun i => i ≤ L.length) (fun i => L.length - i) 0 (by omega) (Sub.keep (by simp) (by simp [hsub]) (by simp [graphB, edT])) ?_
      intro i hi
      simp -dsimp -implicitDefEqProofs
      refine brW_of (fun h2 => ?_) (fun h2 => ?_) <;> simp only [decide_eq_true_eq, decide_eq_false_iff_not] at h2
      · have hx : i < L.length := by omega
        have hwi := wrapNat (i := i) (by omega)
        have hmm := hin L[i] (List.getElem_mem hx)
        have hp := sp_decS_eq L[i].p (by omega)
        have hq := sp_decS_eq L[i].q (by omega)
        have hes := edT_snoc (graphB ++ decB m) L i hx
        have ht1 := ht i
        have q0 := get_fr0 L i hx
        have q1 := get_fr1 L i hx
        have g0 := getF0 L i hx (by simp; omega)
        have g1 := getF1 L i hx (by simp; omega)
        have sp := decB_size L[i].p (by omega) (by omega)
        have sq := decB_size L[i].q (by omega) (by omega)
        have z1 : 1 + (decB L[i].p).size ≤ 9223372036854775807 := by omega
        have z2 : 1 + (decB L[i].p).size + 1 ≤ 9223372036854775807 := by omega
        have z3 : 1 + (decB L[i].p).size + 1 + (decB L[i].q).size ≤ 9223372036854775807 := by omega
        have z4 : (edT (graphB ++ decB m) (L.take i)).size + (1 + (decB L[i].p).size + 1 + (decB L[i].q).size) ≤ 9223372036854775807 := by omega
        simp -dsimp -implicitDefEqProofs [hx, hp, hq, hwi, g0, g1, q0, q1, z1, z2, z3, z4]
        exact .mk (i + 1) (by omega) (by omega) (Sub.keep (by simp) (by simp [hsub]) (by simp [hes, edgeT, sepB, dashB, hwi]))
      · obtain rfl : i = L.length := by omega
        simp -dsimp -implicitDefEqProofs
end Go.Proofs.YtlglgcmpeabdnaaGreatDoorAi
end

section
/- Contracts and law: FlagText. -/
namespace Go.Proofs.YtlglgcmpeabdnaaGreatDoorAi
open Go Go.RowKit
set_option linter.unusedVariables false
set_option linter.unusedSimpArgs false
set_option maxRecDepth 20000

def flagOk (k n e : Int) : Bool := graphOk n e && (decide (0 ≤ k) && decide (k ≤ 3)) && decide (k ≤ n)
noncomputable def sp_flagOk : List AV → Option (AV) := pf (ι := (Int) × (Int) × (Int)) (α := AV) (fun ⟨k, n, e⟩ => 0 ≤ e ∧ e ≤ 4294967295) (fun ⟨k, n, e⟩ => [.agg [.int .i64 k, .int .i64 n, .int .u32 e]]) (fun ⟨k, n, e⟩ => .bool (flagOk k n e))
theorem sp_flagOk_eq (k n e : Int) (h : 0 ≤ e ∧ e ≤ 4294967295) : sp_flagOk [.agg [.int .i64 k, .int .i64 n, .int .u32 e]] = some (.bool (flagOk k n e)) := by
  unfold sp_flagOk
  exact pf_eq (ι := (Int) × (Int) × (Int)) (α := AV) (k, n, e) h (by rintro ⟨k', n', e'⟩ _ e; simp_all [Int.natCast_inj])
theorem q_spec_l03Ok : QP PP 107 sp_flagOk := by
  refine QP_pf (fun i h => ?_) fun i h => ?_
  · obtain ⟨k, n, e⟩ := i; exact ⟨by first | rfl | simp, by first | rfl | simp⟩
  obtain ⟨k, n, e⟩ := i
  replace h : 0 ≤ e ∧ e ≤ 4294967295 := h
  refine P_code (Quiet.q1 q_spec_l01Ok (Quiet.q1 q_spec_l00In Quiet.nil)) hmix k_spec_l03Ok rfl ?_ ?_
  · first | rfl | simp
  show wpc 0 PP _ c_spec_l03Ok (initSt [.agg [.int .i64 k, .int .i64 n, .int .u32 e]] .nil) (endP r_spec_l03Ok (.bool (flagOk k n e)))
  have ho := sp_graphOk_eq n e h
  unfold flagOk
  cases hf : graphOk n e <;> cases h1 : decide (0 ≤ k) <;> cases h2 : decide (k ≤ 3) <;> rw [hf] at ho <;> simp -dsimp -implicitDefEqProofs [c_spec_l03Ok, r_spec_l03Ok, ho, h1, h2]
theorem q_impl_ValidFlag : QP PP 152 sp_flagOk := by
  refine QP_pf (fun i h => ?_) fun i h => ?_
  · obtain ⟨k, n, e⟩ := i; exact ⟨by first | rfl | simp, by first | rfl | simp⟩
  obtain ⟨k, n, e⟩ := i
  replace h : 0 ≤ e ∧ e ≤ 4294967295 := h
  refine P_code (Quiet.q1 q_impl_ValidGraph (Quiet.q1 q_impl_in Quiet.nil)) hmix k_impl_ValidFlag rfl ?_ ?_
  · first | rfl | simp
  show wpc 0 PP _ c_impl_ValidFlag (initSt [.agg [.int .i64 k, .int .i64 n, .int .u32 e]] .nil) (endP r_impl_ValidFlag (.bool (flagOk k n e)))
  have ho := sp_graphOk_eq n e h
  unfold flagOk
  cases hf : graphOk n e <;> cases h1 : decide (0 ≤ k) <;> cases h2 : decide (k ≤ 3) <;> rw [hf] at ho <;> simp -dsimp -implicitDefEqProofs [c_impl_ValidFlag, r_impl_ValidFlag, ho, h1, h2]
def flagB : ByteArray := ⟨#[102, 108, 97, 103, 32]⟩
def flagX (k n e : Int) : ByteArray := flagB ++ decB k ++ sepB ++ grT e n.toNat
theorem grT_size {e : Int} {n : Nat} (h : n ≤ 5) : (grT e n).size ≤ 1200 := by
  have := edT_take (e := e) h (pairsE e n).length
  rw [List.take_length] at this
  exact this
noncomputable def sp_flagX : List AV → Option (AV) := pf (ι := (Int) × (Int) × (Int)) (α := AV) (fun ⟨k, n, e⟩ => (0 ≤ k ∧ k ≤ 3) ∧ (0 ≤ n ∧ n ≤ 5) ∧ (0 ≤ e ∧ e ≤ 4294967295)) (fun ⟨k, n, e⟩ => [.agg [.int .i64 k, .int .i64 n, .int .u32 e]]) (fun ⟨k, n, e⟩ => .str (flagX k n e))
theorem sp_flagX_eq (k n e : Int) (h : (0 ≤ k ∧ k ≤ 3) ∧ (0 ≤ n ∧ n ≤ 5) ∧ (0 ≤ e ∧ e ≤ 4294967295)) : sp_flagX [.agg [.int .i64 k, .int .i64 n, .int .u32 e]] = some (.str (flagX k n e)) := by
  unfold sp_flagX
  exact pf_eq (ι := (Int) × (Int) × (Int)) (α := AV) (k, n, e) h (by rintro ⟨k', n', e'⟩ _ e; simp_all [Int.natCast_inj])
theorem q_impl_Flag_text : QP PP 51 sp_flagX := by
  refine QP_pf (fun i h => ?_) fun i h => ?_
  · obtain ⟨k, n, e⟩ := i; exact ⟨by first | rfl | simp, by first | rfl | simp⟩
  obtain ⟨k, n, e⟩ := i
  replace h : (0 ≤ k ∧ k ≤ 3) ∧ (0 ≤ n ∧ n ≤ 5) ∧ (0 ≤ e ∧ e ≤ 4294967295) := h
  refine P_code (Quiet.q1 q_impl_decimal (Quiet.q1 q_impl_Graph_text Quiet.nil)) hmix k_impl_Flag_text rfl ?_ ?_
  · first | rfl | simp
  show wpc 0 PP _ c_impl_Flag_text (initSt [.agg [.int .i64 k, .int .i64 n, .int .u32 e]] .nil) (endP r_impl_Flag_text (.str (flagX k n e)))
  obtain ⟨hk, hn, he⟩ := h
  obtain ⟨m, rfl⟩ := Int.eq_ofNat_of_zero_le hn.1
  have hd := sp_decimal_eq k (by omega)
  have ht := sp_graphTx_eq m e ⟨by omega, he⟩
  have s1 := decB_size k (by omega) (by omega)
  have s2 := grT_size (e := e) (n := m) (by omega)
  have z1 : 5 + (decB k).size ≤ 9223372036854775807 := by omega
  have z2 : 5 + (decB k).size + 1 ≤ 9223372036854775807 := by omega
  have z3 : 5 + (decB k).size + 1 + (grT e m).size ≤ 9223372036854775807 := by omega
  unfold flagX
  simp -dsimp -implicitDefEqProofs [c_impl_Flag_text, r_impl_Flag_text, hd, ht, z1, z2, z3, flagB, sepB]
def flagT (k n e : Int) : ByteArray := if flagOk k n e = true then flagX k n e else noB
theorem flagOk_in {k n e : Int} (h : flagOk k n e = true) : graphOk n e = true ∧ (0 ≤ k ∧ k ≤ 3) ∧ (0 ≤ n ∧ n ≤ 5) := by
  unfold flagOk at h
  simp only [Bool.and_eq_true, decide_eq_true_eq] at h
  exact ⟨h.1.1, h.1.2, graphOk_in h.1.1⟩
noncomputable def sp_flagText : List AV → Option (AV) := pf (ι := (Int) × (Int) × (Int)) (α := AV) (fun ⟨k, n, e⟩ => 0 ≤ e ∧ e ≤ 4294967295) (fun ⟨k, n, e⟩ => [.agg [.int .i64 k, .int .i64 n, .int .u32 e]]) (fun ⟨k, n, e⟩ => .str (flagT k n e))
theorem sp_flagText_eq (k n e : Int) (h : 0 ≤ e ∧ e ≤ 4294967295) : sp_flagText [.agg [.int .i64 k, .int .i64 n, .int .u32 e]] = some (.str (flagT k n e)) := by
  unfold sp_flagText
  exact pf_eq (ι := (Int) × (Int) × (Int)) (α := AV) (k, n, e) h (by rintro ⟨k', n', e'⟩ _ e; simp_all [Int.natCast_inj])
theorem q_spec_FlagText : QP PP 99 sp_flagText := by
  refine QP_pf (fun i h => ?_) fun i h => ?_
  · obtain ⟨k, n, e⟩ := i; exact ⟨by first | rfl | simp, by first | rfl | simp⟩
  obtain ⟨k, n, e⟩ := i
  replace h : 0 ≤ e ∧ e ≤ 4294967295 := h
  refine P_code (Quiet.q1 q_spec_l03Ok (Quiet.q1 q_spec_Decimal (Quiet.q1 q_spec_GraphText Quiet.nil))) hmix k_spec_FlagText rfl ?_ ?_
  · first | rfl | simp
  show wpc 0 PP _ c_spec_FlagText (initSt [.agg [.int .i64 k, .int .i64 n, .int .u32 e]] .nil) (endP r_spec_FlagText (.str (flagT k n e)))
  have ho := sp_flagOk_eq k n e h
  cases hf : flagOk k n e with
  | false =>
    rw [hf] at ho
    simp -dsimp -implicitDefEqProofs [c_spec_FlagText, r_spec_FlagText, ho, hf, flagT, noB]
  | true =>
    rw [hf] at ho
    obtain ⟨hg, hk, hn⟩ := flagOk_in hf
    obtain ⟨m, rfl⟩ := Int.eq_ofNat_of_zero_le hn.1
    have hd := sp_decS_eq k (by omega)
    have ht := sp_graphText_eq m e h
    have hgt : graphT m e = grT e m := by unfold graphT; rw [if_pos hg, Int.toNat_natCast]
    rw [hgt] at ht
    have s1 := decB_size k (by omega) (by omega)
    have s2 := grT_size (e := e) (n := m) (by omega)
    have z1 : 5 + (decB k).size ≤ 9223372036854775807 := by omega
    have z2 : 5 + (decB k).size + 1 ≤ 9223372036854775807 := by omega
    have z3 : 5 + (decB k).size + 1 + (grT e m).size ≤ 9223372036854775807 := by omega
    unfold flagT
    rw [if_pos hf]
    unfold flagX
    rw [Int.toNat_natCast]
    simp -dsimp -implicitDefEqProofs [c_spec_FlagText, r_spec_FlagText, ho, hd, ht, z1, z2, z3, flagB, sepB]
noncomputable def sp_toFlag : List AV → Option (AV) := pf (ι := (Int) × (Int) × (Int)) (α := AV) (fun ⟨k, n, e⟩ => True) (fun ⟨k, n, e⟩ => [.agg [.int .i64 k, .int .i64 n, .int .u32 e]]) (fun ⟨k, n, e⟩ => .agg [.int .i64 k, .int .i64 n, .int .u32 e])
theorem sp_toFlag_eq (k n e : Int) : sp_toFlag [.agg [.int .i64 k, .int .i64 n, .int .u32 e]] = some (.agg [.int .i64 k, .int .i64 n, .int .u32 e]) := by
  unfold sp_toFlag
  exact pf_eq (ι := (Int) × (Int) × (Int)) (α := AV) (k, n, e) trivial (by rintro ⟨k', n', e'⟩ _ e; simp_all [Int.natCast_inj])
attribute [simp] sp_toFlag_eq
theorem q_laws_toFlag : QP PP 171 sp_toFlag := by
  refine QP_pf (fun i h => ?_) fun i h => ?_
  · obtain ⟨k, n, e⟩ := i; exact ⟨by first | rfl | simp, by first | rfl | simp⟩
  obtain ⟨k, n, e⟩ := i
  replace h : True := h
  refine P_code (Quiet.q1 q_laws_toGraph Quiet.nil) hmix k_laws_toFlag rfl ?_ ?_
  · first | rfl | simp
  show wpc 0 PP _ c_laws_toFlag (initSt [.agg [.int .i64 k, .int .i64 n, .int .u32 e]] .nil) (endP r_laws_toFlag (.agg [.int .i64 k, .int .i64 n, .int .u32 e]))
  simp -dsimp -implicitDefEqProofs [c_laws_toFlag, r_laws_toFlag]
end Go.Proofs.YtlglgcmpeabdnaaGreatDoorAi
end

section
/- MADE BY PROGRAM (wip/tools/gen.py): the abstract code of functions. -/
namespace Go.Proofs.YtlglgcmpeabdnaaGreatDoorAi
open Go AC AOp Opd
set_option linter.unusedVariables false
set_option maxRecDepth 100000
def c_impl_Flag_typeOf : AC := seq (reg [⟨(some 1), box 3 (t 0), none⟩, ⟨(some 2), alloc [.int .i64 0, .int .u32 0], none⟩]) (seq (reg [⟨(some 3), fad (t 1) 1, none⟩, ⟨(some 4), ld (t 3) 2 true, none⟩, ⟨(some 5), fad (t 1) 0, none⟩, ⟨(some 6), ld (t 5) 1 false, none⟩, ⟨(some 7), calle (c (.fn 216 [])) [t 6] [(c .nilf, 0, false)], none⟩, ⟨(some 8), calle (c (.fn 215 [])) [t 4, t 7] [(c .nilf, 0, false)], none⟩, ⟨none, st (t 2) 2 (t 8), none⟩]) (ret))
def r_impl_Flag_typeOf : List ARes := [.cell 2 2 true]
theorem k_impl_Flag_typeOf : acLin Go.Proofs.Tryz.prog 212 1 (inQ [] [215, 216]) [⟨false, none, [], [], none⟩, ⟨false, some [0, 1, 2, 3, 4, 5, 6], [(4, [(c .nilf, 0, false)]), (5, [(c .nilf, 0, false)])], [], none⟩] = some (c_impl_Flag_typeOf, r_impl_Flag_typeOf) := by kernel_rfl
def c_spec_l03Type : AC := seq (reg [⟨(some 1), box 3 (t 0), none⟩, ⟨(some 2), alloc [.int .i64 0, .int .u32 0], none⟩]) (seq (reg [⟨(some 3), fad (t 1) 1, none⟩, ⟨(some 4), ld (t 3) 2 true, none⟩, ⟨(some 5), fad (t 1) 0, none⟩, ⟨(some 6), ld (t 5) 1 false, none⟩, ⟨(some 7), calle (c (.fn 209 [])) [t 6] [(c .nilf, 0, false)], none⟩, ⟨(some 8), calle (c (.fn 208 [])) [t 4, t 7] [(c .nilf, 0, false)], none⟩, ⟨none, st (t 2) 2 (t 8), none⟩]) (ret))
def r_spec_l03Type : List ARes := [.cell 2 2 true]
theorem k_spec_l03Type : acLin Go.Proofs.Tryz.prog 193 1 (inQ [] [208, 209]) [⟨false, none, [], [], none⟩, ⟨false, some [0, 1, 2, 3, 4, 5, 6], [(4, [(c .nilf, 0, false)]), (5, [(c .nilf, 0, false)])], [], none⟩] = some (c_spec_l03Type, r_spec_l03Type) := by kernel_rfl
end Go.Proofs.YtlglgcmpeabdnaaGreatDoorAi
end

section
/- Contracts: types and least forms of flags. -/
namespace Go.Proofs.YtlglgcmpeabdnaaGreatDoorAi
open Go Go.RowKit
set_option linter.unusedVariables false
set_option linter.unusedSimpArgs false
set_option maxRecDepth 20000

noncomputable def sp_nan32 : List AV → Option (AV) := pf (ι := (Int)) (α := AV) (fun a => True) (fun a => [.int .u32 a]) (fun a => .bool false)
theorem sp_nan32_eq (a : Int) : sp_nan32 [.int .u32 a] = some (.bool false) := by
  unfold sp_nan32
  exact pf_eq (ι := (Int)) (α := AV) a trivial (by rintro a' _ e; simp_all [Int.natCast_inj])
attribute [simp] sp_nan32_eq
def ordI (a b : Int) : Int := if a < b then -1 else if b < a then 1 else 0
noncomputable def sp_cmp32 : List AV → Option (AV) := pf (ι := (Int) × (Int)) (α := AV) (fun ⟨a, b⟩ => True) (fun ⟨a, b⟩ => [.int .u32 a, .int .u32 b]) (fun ⟨a, b⟩ => .int .i64 (ordI a b))
theorem sp_cmp32_eq (a b : Int) : sp_cmp32 [.int .u32 a, .int .u32 b] = some (.int .i64 (ordI a b)) := by
  unfold sp_cmp32
  exact pf_eq (ι := (Int) × (Int)) (α := AV) (a, b) trivial (by rintro ⟨a', b'⟩ _ e; simp_all [Int.natCast_inj])
attribute [simp] sp_cmp32_eq
noncomputable def sp_flagOrd : List AV → Option (AV) := pf (ι := (Int) × (Int) × (Int) × (Int) × (Int) × (Int)) (α := AV) (fun ⟨k, n, a, k', n', b⟩ => True) (fun ⟨k, n, a, k', n', b⟩ => [.agg [.int .i64 k, .int .i64 n, .int .u32 a], .agg [.int .i64 k', .int .i64 n', .int .u32 b]]) (fun ⟨k, n, a, k', n', b⟩ => .int .i64 (ordI a b))
theorem sp_flagOrd_eq (k n a k' n' b : Int) : sp_flagOrd [.agg [.int .i64 k, .int .i64 n, .int .u32 a], .agg [.int .i64 k', .int .i64 n', .int .u32 b]] = some (.int .i64 (ordI a b)) := by
  unfold sp_flagOrd
  exact pf_eq (ι := (Int) × (Int) × (Int) × (Int) × (Int) × (Int)) (α := AV) (k, n, a, k', n', b) trivial (by rintro ⟨k', n', a', k'', n'', b'⟩ _ e; simp_all [Int.natCast_inj])
attribute [simp] sp_flagOrd_eq
/-! ### least graphs -/
end Go.Proofs.YtlglgcmpeabdnaaGreatDoorAi
end

section
/- Contracts: types of flags, orders of flags. -/
namespace Go.Proofs.YtlglgcmpeabdnaaGreatDoorAi
open Go Go.RowKit
set_option linter.unusedVariables false
set_option linter.unusedSimpArgs false
set_option maxRecDepth 20000

theorem upTo_dist {k : Nat} (h : k ≤ 5) : distL (upTo k) := ⟨upTo_nodup k, by simp; omega, fun x hx => by have := upTo_mem hx; omega⟩
def typeE (k e : Nat) : Nat := onE e (upTo k)
noncomputable def sp_typeF : List AV → Option (AV) := pf (ι := (Nat) × (Nat) × (Nat)) (α := AV) (fun ⟨k, n, e⟩ => k ≤ 3 ∧ e ≤ 4294967295) (fun ⟨k, n, e⟩ => [.agg [.int .i64 k, .int .i64 n, .int .u32 e]]) (fun ⟨k, n, e⟩ => .agg [.int .i64 k, .int .u32 (typeE k e)])
theorem sp_typeF_eq (k n e : Nat) (h : k ≤ 3 ∧ e ≤ 4294967295) : sp_typeF [.agg [.int .i64 k, .int .i64 n, .int .u32 e]] = some (.agg [.int .i64 k, .int .u32 (typeE k e)]) := by
  unfold sp_typeF
  exact pf_eq (ι := (Nat) × (Nat) × (Nat)) (α := AV) (k, n, e) h (by rintro ⟨k', n', e'⟩ _ e; simp_all [Int.natCast_inj])
theorem q_impl_Flag_typeOf : QP PP 212 sp_typeF := by
  refine QP_pf (fun i h => ?_) fun i h => ?_
  · obtain ⟨k, n, e⟩ := i; exact ⟨by first | rfl | simp, by first | rfl | simp⟩
  obtain ⟨k, n, e⟩ := i
  replace h : k ≤ 3 ∧ e ≤ 4294967295 := h
  refine P_code (Quiet.e1 n_impl_first.toE (Quiet.e1 q_impl_Graph_on.toR Quiet.nil)) hmix k_impl_Flag_typeOf rfl ?_ ?_
  · first | rfl | simp
  show wpc 0 PP _ c_impl_Flag_typeOf (initSt [.agg [.int .i64 k, .int .i64 n, .int .u32 e]] .nil) (endP r_impl_Flag_typeOf (.agg [.int .i64 k, .int .u32 (typeE k e)]))
  have hf := sp_firstP_eq k (by omega)
  have ho := sp_on_eq n e (upTo k) ⟨⟨by omega, by omega⟩, upTo_dist (by omega)⟩
  rw [upTo_len] at ho
  unfold firstR at hf
  unfold typeE
  rcases Nat.eq_zero_or_pos k with rfl | hk
  · rw [if_pos rfl] at hf
    have ho' : sp_on [.agg [.int .i64 n, .int .u32 e], .sl [] false] = some (.agg [.int .i64 0, .int .u32 (onE e (upTo 0))]) := ho
    have hf' : sp_firstP [.int .i64 0] = some (.sl [] true, []) := hf
    simp -dsimp -implicitDefEqProofs [c_impl_Flag_typeOf, r_impl_Flag_typeOf, hf', ho']
  · rw [if_neg (by omega)] at hf
    simp -dsimp -implicitDefEqProofs [c_impl_Flag_typeOf, r_impl_Flag_typeOf, hf, ho]
theorem q_spec_l03Type : QP PP 193 sp_typeF := by
  refine QP_pf (fun i h => ?_) fun i h => ?_
  · obtain ⟨k, n, e⟩ := i; exact ⟨by first | rfl | simp, by first | rfl | simp⟩
  obtain ⟨k, n, e⟩ := i
  replace h : k ≤ 3 ∧ e ≤ 4294967295 := h
  refine P_code (Quiet.e1 n_spec_l01First.toE (Quiet.e1 q_spec_l01On.toR Quiet.nil)) hmix k_spec_l03Type rfl ?_ ?_
  · first | rfl | simp
  show wpc 0 PP _ c_spec_l03Type (initSt [.agg [.int .i64 k, .int .i64 n, .int .u32 e]] .nil) (endP r_spec_l03Type (.agg [.int .i64 k, .int .u32 (typeE k e)]))
  have hf := sp_firstP_eq k (by omega)
  have ho := sp_on_eq n e (upTo k) ⟨⟨by omega, by omega⟩, upTo_dist (by omega)⟩
  rw [upTo_len] at ho
  unfold firstR at hf
  unfold typeE
  rcases Nat.eq_zero_or_pos k with rfl | hk
  · rw [if_pos rfl] at hf
    have ho' : sp_on [.agg [.int .i64 n, .int .u32 e], .sl [] false] = some (.agg [.int .i64 0, .int .u32 (onE e (upTo 0))]) := ho
    have hf' : sp_firstP [.int .i64 0] = some (.sl [] true, []) := hf
    simp -dsimp -implicitDefEqProofs [c_spec_l03Type, r_spec_l03Type, hf', ho']
  · rw [if_neg (by omega)] at hf
    simp -dsimp -implicitDefEqProofs [c_spec_l03Type, r_spec_l03Type, hf, ho]
/-- The orders in which some first vertices stay: those of the others behind them. -/
def behind (k : Nat) (L : List Int) : List Int := upTo k ++ L.map (· + (k : Int))
end Go.Proofs.YtlglgcmpeabdnaaGreatDoorAi
end

section
/- MADE BY PROGRAM (wip/tools/gen.py): the abstract code of functions. -/
namespace Go.Proofs.YtlglgcmpeabdnaaGreatDoorAi
open Go AC AOp Opd
set_option linter.unusedVariables false
set_option maxRecDepth 100000
def c_slices_IndexFunc_Simpl_Fraction_impl_Fraction : AC := seq (reg [⟨(some 4), mv (c (.int .i64 0)), none⟩]) (seq (seq (reg [⟨(some 6), mv (t 0), none⟩, ⟨(some 7), len (t 6), none⟩, ⟨(some 8), mv (c (.int .i64 0)), none⟩]) (block 0 (loop (seq (reg [⟨(some 9), bin .lss (t 8) (t 7), none⟩]) (seq (cond (t 9) (skip) (exit 0)) (seq (block 1 (seq (reg [⟨(some 10), mv (t 8), none⟩, ⟨(some 5), mv (t 10), none⟩]) (seq (reg [⟨(some 11), mv (t 1), none⟩, ⟨(some 12), mv (t 0), none⟩, ⟨(some 13), mv (t 5), none⟩, ⟨(some 14), iad 2 (t 12) (t 13), none⟩, ⟨(some 15), ld (t 14) 2 true, none⟩, ⟨(some 16), call (t 11) [t 15], none⟩]) (cond (t 16) (seq (reg [⟨(some 17), mv (t 5), none⟩, ⟨(some 4), mv (t 17), none⟩]) (ret)) (skip))))) (reg [⟨(some 18), bin .add (t 8) (c (.int .i64 1)), none⟩, ⟨(some 8), mv (t 18), none⟩]))))))) (seq (reg [⟨(some 4), mv (c (.int .i64 (-1))), none⟩]) (ret)))
def r_slices_IndexFunc_Simpl_Fraction_impl_Fraction : List ARes := [.tmp 4]
theorem k_slices_IndexFunc_Simpl_Fraction_impl_Fraction : acLin Go.Proofs.Tryz.prog 185 2 (inQ [] []) [] = some (c_slices_IndexFunc_Simpl_Fraction_impl_Fraction, r_slices_IndexFunc_Simpl_Fraction_impl_Fraction) := by kernel_rfl
def c_slices_ContainsFunc_Simpl_Fraction_impl_Fraction : AC := seq (reg [⟨(some 4), mv (c (.bool false)), none⟩]) (seq (reg [⟨(some 5), mv (t 0), none⟩, ⟨(some 6), mv (t 1), none⟩, ⟨(some 7), calle (c (.fn 185 [])) [t 5, t 6] [], none⟩, ⟨(some 8), bin .geq (t 7) (c (.int .i64 0)), none⟩, ⟨(some 4), mv (t 8), none⟩]) (ret))
def r_slices_ContainsFunc_Simpl_Fraction_impl_Fraction : List ARes := [.tmp 4]
theorem k_slices_ContainsFunc_Simpl_Fraction_impl_Fraction : acLin Go.Proofs.Tryz.prog 156 2 (inQ [] [185]) [] = some (c_slices_ContainsFunc_Simpl_Fraction_impl_Fraction, r_slices_ContainsFunc_Simpl_Fraction_impl_Fraction) := by kernel_rfl
def c_impl_validList : AC := seq (reg [⟨(some 2), mv (c (.bool false)), none⟩]) (seq (reg [⟨(some 3), mv (t 0), none⟩, ⟨(some 4), len (t 3), none⟩, ⟨(some 5), bin .leq (t 4) (c (.int .i64 256)), none⟩, ⟨(some 6), mv (t 5), none⟩, ⟨(some 7), mv (t 0), some (6, true)⟩, ⟨(some 8), calle (c (.fn 156 [])) [t 7, c (.fn 90 [])] [], some (6, true)⟩, ⟨(some 9), un .not (t 8), some (6, true)⟩, ⟨(some 10), pick (t 6) (t 9) (c (.bool false)), none⟩, ⟨(some 2), mv (t 10), none⟩]) (ret))
def r_impl_validList : List ARes := [.tmp 2]
theorem k_impl_validList : acLin Go.Proofs.Tryz.prog 118 1 (inQ [90] [156]) [] = some (c_impl_validList, r_impl_validList) := by kernel_rfl
def c_impl_ValidMatrix_1 : AC := seq (reg [⟨(some 3), mv (c (.bool false)), none⟩]) (seq (reg [⟨(some 4), mv (t 0), none⟩, ⟨(some 5), len (t 4), none⟩, ⟨(some 6), ld (t 1) 1 false, none⟩, ⟨(some 7), len (t 6), none⟩, ⟨(some 8), bin .neq (t 5) (t 7), none⟩, ⟨(some 9), mv (t 8), none⟩, ⟨(some 10), mv (t 0), some (9, false)⟩, ⟨(some 11), callq (c (.fn 118 [])) [t 10], some (9, false)⟩, ⟨(some 12), un .not (t 11), some (9, false)⟩, ⟨(some 13), pick (t 9) (c (.bool true)) (t 12), none⟩, ⟨(some 3), mv (t 13), none⟩]) (ret))
def r_impl_ValidMatrix_1 : List ARes := [.tmp 3]
theorem k_impl_ValidMatrix_1 : acLin Go.Proofs.Tryz.prog 117 2 (inQ [118] []) [] = some (c_impl_ValidMatrix_1, r_impl_ValidMatrix_1) := by kernel_rfl
def c_slices_ContainsFunc_SSimpl_Fraction_Simpl_Fraction : AC := seq (reg [⟨(some 4), mv (c (.bool false)), none⟩]) (seq (reg [⟨(some 5), mv (t 0), none⟩, ⟨(some 6), mv (t 1), none⟩, ⟨(some 7), calle (c (.fn 155 [])) [t 5, t 6] [], none⟩, ⟨(some 8), bin .geq (t 7) (c (.int .i64 0)), none⟩, ⟨(some 4), mv (t 8), none⟩]) (ret))
def r_slices_ContainsFunc_SSimpl_Fraction_Simpl_Fraction : List ARes := [.tmp 4]
theorem k_slices_ContainsFunc_SSimpl_Fraction_Simpl_Fraction : acLin Go.Proofs.Tryz.prog 116 2 (inQ [] [155]) [] = some (c_slices_ContainsFunc_SSimpl_Fraction_Simpl_Fraction, r_slices_ContainsFunc_SSimpl_Fraction_Simpl_Fraction) := by kernel_rfl
def c_slices_IndexFunc_SSimpl_Fraction_Simpl_Fraction : AC := seq (reg [⟨(some 4), mv (c (.int .i64 0)), none⟩]) (seq (seq (reg [⟨(some 6), mv (t 0), none⟩, ⟨(some 7), len (t 6), none⟩, ⟨(some 8), mv (c (.int .i64 0)), none⟩]) (block 0 (loop (seq (reg [⟨(some 9), bin .lss (t 8) (t 7), none⟩]) (seq (cond (t 9) (skip) (exit 0)) (seq (block 1 (seq (reg [⟨(some 10), mv (t 8), none⟩, ⟨(some 5), mv (t 10), none⟩]) (seq (reg [⟨(some 11), mv (t 1), none⟩, ⟨(some 12), mv (t 0), none⟩, ⟨(some 13), mv (t 5), none⟩, ⟨(some 14), iad 1 (t 12) (t 13), none⟩, ⟨(some 15), ld (t 14) 1 false, none⟩, ⟨(some 16), call (t 11) [t 15], none⟩]) (cond (t 16) (seq (reg [⟨(some 17), mv (t 5), none⟩, ⟨(some 4), mv (t 17), none⟩]) (ret)) (skip))))) (reg [⟨(some 18), bin .add (t 8) (c (.int .i64 1)), none⟩, ⟨(some 8), mv (t 18), none⟩]))))))) (seq (reg [⟨(some 4), mv (c (.int .i64 (-1))), none⟩]) (ret)))
def r_slices_IndexFunc_SSimpl_Fraction_Simpl_Fraction : List ARes := [.tmp 4]
theorem k_slices_IndexFunc_SSimpl_Fraction_Simpl_Fraction : acLin Go.Proofs.Tryz.prog 155 2 (inQ [] []) [] = some (c_slices_IndexFunc_SSimpl_Fraction_Simpl_Fraction, r_slices_IndexFunc_SSimpl_Fraction_Simpl_Fraction) := by kernel_rfl
def c_impl_ValidMatrix : AC := seq (reg [⟨(some 1), box 1 (t 0), none⟩, ⟨(some 2), mv (c (.bool false)), none⟩]) (seq (seq (reg [⟨(some 7), ld (t 1) 1 false, none⟩, ⟨(some 8), len (t 7), none⟩, ⟨(some 9), bin .gtr (t 8) (c (.int .i64 8)), none⟩, ⟨(some 10), mv (t 9), none⟩, ⟨(some 11), ld (t 1) 1 false, some (10, false)⟩, ⟨(some 12), mkf 117 [t 1], some (10, false)⟩, ⟨(some 13), calle (c (.fn 116 [])) [t 11, t 12] [], some (10, false)⟩, ⟨(some 14), pick (t 10) (c (.bool true)) (t 13), none⟩]) (cond (t 14) (seq (reg [⟨(some 2), mv (c (.bool false)), none⟩]) (ret)) (skip))) (seq (seq (reg [⟨(some 15), ld (t 1) 1 false, none⟩, ⟨(some 16), len (t 15), none⟩, ⟨(some 17), mv (c (.int .i64 0)), none⟩]) (block 0 (loop (seq (reg [⟨(some 18), bin .lss (t 17) (t 16), none⟩]) (seq (cond (t 18) (skip) (exit 0)) (seq (block 1 (seq (reg [⟨(some 19), mv (t 17), none⟩, ⟨(some 20), iad 1 (t 15) (t 17), none⟩, ⟨(some 21), ld (t 20) 1 false, none⟩, ⟨(some 3), mv (t 19), none⟩, ⟨(some 4), mv (t 21), none⟩]) (seq (reg [⟨(some 22), mv (t 4), none⟩, ⟨(some 23), len (t 22), none⟩, ⟨(some 24), mv (c (.int .i64 0)), none⟩]) (block 2 (loop (seq (reg [⟨(some 25), bin .lss (t 24) (t 23), none⟩]) (seq (cond (t 25) (skip) (exit 2)) (seq (block 3 (seq (reg [⟨(some 26), mv (t 24), none⟩, ⟨(some 27), iad 2 (t 22) (t 24), none⟩, ⟨(some 28), ld (t 27) 2 true, none⟩, ⟨(some 6), alloc [.int .i64 0, .int .i64 0], none⟩, ⟨(some 5), mv (t 26), none⟩, ⟨none, st (t 6) 2 (t 28), none⟩]) (seq (reg [⟨(some 29), ld (t 1) 1 false, none⟩, ⟨(some 30), mv (t 5), none⟩, ⟨(some 31), iad 1 (t 29) (t 30), none⟩, ⟨(some 32), ld (t 31) 1 false, none⟩, ⟨(some 33), mv (t 3), none⟩, ⟨(some 34), iad 2 (t 32) (t 33), none⟩, ⟨(some 35), ld (t 34) 2 true, none⟩, ⟨(some 36), ld (t 6) 2 true, none⟩, ⟨(some 37), eqs true [.i .i64, .i .i64] (t 35) (t 36), none⟩]) (cond (t 37) (seq (reg [⟨(some 2), mv (c (.bool false)), none⟩]) (ret)) (skip))))) (reg [⟨(some 38), bin .add (t 24) (c (.int .i64 1)), none⟩, ⟨(some 24), mv (t 38), none⟩]))))))))) (reg [⟨(some 39), bin .add (t 17) (c (.int .i64 1)), none⟩, ⟨(some 17), mv (t 39), none⟩]))))))) (seq (reg [⟨(some 2), mv (c (.bool true)), none⟩]) (ret))))
def r_impl_ValidMatrix : List ARes := [.tmp 2]
theorem k_impl_ValidMatrix : acLin Go.Proofs.Tryz.prog 65 1 (inQ [] [116]) [⟨false, none, [], [], none⟩, ⟨false, none, [], [], none⟩, ⟨false, none, [], [], none⟩, ⟨false, none, [], [], none⟩, ⟨false, none, [], [], none⟩, ⟨false, none, [], [], none⟩, ⟨false, none, [], [], none⟩, ⟨false, none, [], [], none⟩, ⟨false, none, [], [], none⟩, ⟨false, none, [], [], none⟩, ⟨false, none, [], [], none⟩, ⟨false, none, [], [], none⟩, ⟨false, some [0, 1, 2, 3, 4, 5, 6, 7, 8], [], [], none⟩] = some (c_impl_ValidMatrix, r_impl_ValidMatrix) := by kernel_rfl
def c_impl_fractionsText : AC := seq (reg [⟨(some 2), mv (c (.str ⟨#[]⟩)), none⟩]) (seq (reg [⟨(some 6), bsl 1 0 [.str ⟨#[]⟩] [], none⟩, ⟨(some 3), mv (t 6), none⟩]) (seq (seq (reg [⟨(some 7), mv (t 0), none⟩, ⟨(some 8), len (t 7), none⟩, ⟨(some 9), mv (c (.int .i64 0)), none⟩]) (block 0 (loop (seq (reg [⟨(some 10), bin .lss (t 9) (t 8), none⟩]) (seq (cond (t 10) (skip) (exit 0)) (seq (block 1 (seq (reg [⟨(some 11), iad 2 (t 7) (t 9), none⟩, ⟨(some 12), ld (t 11) 2 true, none⟩, ⟨(some 5), alloc [.int .i64 0, .int .i64 0], none⟩, ⟨none, st (t 5) 2 (t 12), none⟩]) (reg [⟨(some 13), mv (t 3), none⟩, ⟨(some 14), ld (t 5) 2 true, none⟩, ⟨(some 15), callq (c (.fn 134 [])) [t 14], none⟩, ⟨(some 16), bsl 1 1 [.str ⟨#[]⟩] [(0, t 15)], none⟩, ⟨(some 17), app 1 16 (t 13) (t 16), none⟩, ⟨(some 3), mv (t 17), none⟩]))) (reg [⟨(some 18), bin .add (t 9) (c (.int .i64 1)), none⟩, ⟨(some 9), mv (t 18), none⟩]))))))) (seq (reg [⟨(some 19), mv (t 3), none⟩, ⟨(some 20), calle (c (.fn 111 [])) [t 19, c (.str ⟨#[32]⟩)] [], none⟩, ⟨(some 2), mv (t 20), none⟩]) (ret))))
def r_impl_fractionsText : List ARes := [.tmp 2]
theorem k_impl_fractionsText : acLin Go.Proofs.Tryz.prog 94 1 (inQ [134] [111]) [] = some (c_impl_fractionsText, r_impl_fractionsText) := by kernel_rfl
def c_impl_matrixText : AC := seq (reg [⟨(some 2), mv (c (.str ⟨#[]⟩)), none⟩]) (seq (reg [⟨(some 3), mv (c (.str ⟨#[]⟩)), none⟩]) (seq (seq (reg [⟨(some 6), mv (t 0), none⟩, ⟨(some 7), len (t 6), none⟩, ⟨(some 8), mv (c (.int .i64 0)), none⟩]) (block 0 (loop (seq (reg [⟨(some 9), bin .lss (t 8) (t 7), none⟩]) (seq (cond (t 9) (skip) (exit 0)) (seq (block 1 (seq (reg [⟨(some 10), iad 1 (t 6) (t 8), none⟩, ⟨(some 11), ld (t 10) 1 false, none⟩, ⟨(some 5), mv (t 11), none⟩]) (reg [⟨(some 12), mv (t 3), none⟩, ⟨(some 13), mv (t 5), none⟩, ⟨(some 14), callq (c (.fn 94 [])) [t 13], none⟩, ⟨(some 15), bin .add (t 14) (c (.str ⟨#[10]⟩)), none⟩, ⟨(some 16), bin .add (t 12) (t 15), none⟩, ⟨(some 3), mv (t 16), none⟩]))) (reg [⟨(some 17), bin .add (t 8) (c (.int .i64 1)), none⟩, ⟨(some 8), mv (t 17), none⟩]))))))) (seq (reg [⟨(some 18), mv (t 3), none⟩, ⟨(some 2), mv (t 18), none⟩]) (ret))))
def r_impl_matrixText : List ARes := [.tmp 2]
theorem k_impl_matrixText : acLin Go.Proofs.Tryz.prog 52 1 (inQ [94] []) [] = some (c_impl_matrixText, r_impl_matrixText) := by kernel_rfl
def c_spec_l02Matrix : AC := seq (reg [⟨(some 2), mv (c (.bool false)), none⟩]) (seq (seq (reg [⟨(some 6), mv (t 0), none⟩, ⟨(some 7), len (t 6), none⟩, ⟨(some 8), bin .gtr (t 7) (c (.int .i64 8)), none⟩]) (cond (t 8) (seq (reg [⟨(some 2), mv (c (.bool false)), none⟩]) (ret)) (skip))) (seq (seq (reg [⟨(some 3), mv (c (.int .i64 0)), none⟩]) (block 0 (loop (seq (seq (reg [⟨(some 9), mv (t 3), none⟩, ⟨(some 10), mv (t 0), none⟩, ⟨(some 11), len (t 10), none⟩, ⟨(some 12), bin .lss (t 9) (t 11), none⟩]) (cond (t 12) (skip) (exit 0))) (seq (block 1 (seq (reg [⟨(some 15), mv (t 0), none⟩, ⟨(some 16), mv (t 3), none⟩, ⟨(some 17), iad 1 (t 15) (t 16), none⟩, ⟨(some 18), ld (t 17) 1 false, none⟩, ⟨(some 19), len (t 18), none⟩, ⟨(some 20), mv (t 0), none⟩, ⟨(some 21), len (t 20), none⟩, ⟨(some 22), bin .neq (t 19) (t 21), none⟩]) (cond (t 22) (seq (reg [⟨(some 2), mv (c (.bool false)), none⟩]) (ret)) (skip)))) (reg [⟨(some 13), mv (t 3), none⟩, ⟨(some 14), bin .add (t 13) (c (.int .i64 1)), none⟩, ⟨(some 3), mv (t 14), none⟩])))))) (seq (seq (reg [⟨(some 4), mv (c (.int .i64 0)), none⟩]) (block 2 (loop (seq (seq (reg [⟨(some 23), mv (t 4), none⟩, ⟨(some 24), mv (t 0), none⟩, ⟨(some 25), len (t 24), none⟩, ⟨(some 26), bin .lss (t 23) (t 25), none⟩]) (cond (t 26) (skip) (exit 2))) (seq (block 3 (seq (reg [⟨(some 5), mv (c (.int .i64 0)), none⟩]) (block 4 (loop (seq (seq (reg [⟨(some 29), mv (t 5), none⟩, ⟨(some 30), mv (t 0), none⟩, ⟨(some 31), len (t 30), none⟩, ⟨(some 32), bin .lss (t 29) (t 31), none⟩]) (cond (t 32) (skip) (exit 4))) (seq (block 5 (seq (reg [⟨(some 35), mv (t 0), none⟩, ⟨(some 36), mv (t 4), none⟩, ⟨(some 37), iad 1 (t 35) (t 36), none⟩, ⟨(some 38), ld (t 37) 1 false, none⟩, ⟨(some 39), mv (t 5), none⟩, ⟨(some 40), iad 2 (t 38) (t 39), none⟩, ⟨(some 41), ld (t 40) 2 true, none⟩, ⟨(some 42), callq (c (.fn 70 [])) [t 41], none⟩, ⟨(some 43), un .not (t 42), none⟩, ⟨(some 44), mv (t 43), none⟩, ⟨(some 45), mv (t 0), some (44, false)⟩, ⟨(some 46), mv (t 4), some (44, false)⟩, ⟨(some 47), iad 1 (t 45) (t 46), some (44, false)⟩, ⟨(some 48), ld (t 47) 1 false, some (44, false)⟩, ⟨(some 49), mv (t 5), some (44, false)⟩, ⟨(some 50), iad 2 (t 48) (t 49), some (44, false)⟩, ⟨(some 51), ld (t 50) 2 true, some (44, false)⟩, ⟨(some 52), mv (t 0), some (44, false)⟩, ⟨(some 53), mv (t 5), some (44, false)⟩, ⟨(some 54), iad 1 (t 52) (t 53), some (44, false)⟩, ⟨(some 55), ld (t 54) 1 false, some (44, false)⟩, ⟨(some 56), mv (t 4), some (44, false)⟩, ⟨(some 57), iad 2 (t 55) (t 56), some (44, false)⟩, ⟨(some 58), ld (t 57) 2 true, some (44, false)⟩, ⟨(some 59), eqs true [.i .i64, .i .i64] (t 51) (t 58), some (44, false)⟩, ⟨(some 60), pick (t 44) (c (.bool true)) (t 59), none⟩]) (cond (t 60) (seq (reg [⟨(some 2), mv (c (.bool false)), none⟩]) (ret)) (skip)))) (reg [⟨(some 33), mv (t 5), none⟩, ⟨(some 34), bin .add (t 33) (c (.int .i64 1)), none⟩, ⟨(some 5), mv (t 34), none⟩]))))))) (reg [⟨(some 27), mv (t 4), none⟩, ⟨(some 28), bin .add (t 27) (c (.int .i64 1)), none⟩, ⟨(some 4), mv (t 28), none⟩])))))) (seq (reg [⟨(some 2), mv (c (.bool true)), none⟩]) (ret)))))
def r_spec_l02Matrix : List ARes := [.tmp 2]
theorem k_spec_l02Matrix : acLin Go.Proofs.Tryz.prog 63 1 (inQ [70] []) [⟨false, none, [], [], none⟩, ⟨false, none, [], [], none⟩, ⟨false, none, [], [], none⟩, ⟨false, none, [], [], none⟩, ⟨false, none, [], [], none⟩, ⟨false, none, [], [], none⟩, ⟨false, none, [], [], none⟩, ⟨false, none, [], [], none⟩, ⟨false, none, [], [], none⟩, ⟨false, none, [], [], none⟩, ⟨false, none, [], [], none⟩, ⟨false, none, [], [], none⟩, ⟨false, none, [], [], none⟩, ⟨false, none, [], [], none⟩, ⟨false, none, [], [], none⟩, ⟨false, none, [], [], none⟩, ⟨false, none, [], [], none⟩, ⟨false, some [0, 1, 2, 3, 4, 5, 6, 7, 8, 9, 10, 11, 12, 13, 14, 15, 16, 17, 18, 19, 20, 21, 22, 23, 24, 25], [], [], none⟩] = some (c_spec_l02Matrix, r_spec_l02Matrix) := by kernel_rfl
def c_spec_MatrixText : AC := seq (reg [⟨(some 2), mv (c (.str ⟨#[]⟩)), none⟩]) (seq (seq (reg [⟨(some 6), mv (t 0), none⟩, ⟨(some 7), callq (c (.fn 63 [])) [t 6], none⟩, ⟨(some 8), un .not (t 7), none⟩]) (cond (t 8) (seq (reg [⟨(some 2), mv (c (.str ⟨#[]⟩)), none⟩]) (ret)) (skip))) (seq (reg [⟨(some 3), mv (c (.str ⟨#[]⟩)), none⟩]) (seq (seq (reg [⟨(some 4), mv (c (.int .i64 0)), none⟩]) (block 0 (loop (seq (seq (reg [⟨(some 9), mv (t 4), none⟩, ⟨(some 10), mv (t 0), none⟩, ⟨(some 11), len (t 10), none⟩, ⟨(some 12), bin .lss (t 9) (t 11), none⟩]) (cond (t 12) (skip) (exit 0))) (seq (block 1 (seq (seq (reg [⟨(some 5), mv (c (.int .i64 0)), none⟩]) (block 2 (loop (seq (seq (reg [⟨(some 15), mv (t 5), none⟩, ⟨(some 16), mv (t 0), none⟩, ⟨(some 17), len (t 16), none⟩, ⟨(some 18), bin .lss (t 15) (t 17), none⟩]) (cond (t 18) (skip) (exit 2))) (seq (block 3 (seq (seq (reg [⟨(some 21), mv (t 5), none⟩, ⟨(some 22), bin .gtr (t 21) (c (.int .i64 0)), none⟩]) (cond (t 22) (reg [⟨(some 23), mv (t 3), none⟩, ⟨(some 24), bin .add (t 23) (c (.str ⟨#[32]⟩)), none⟩, ⟨(some 3), mv (t 24), none⟩]) (skip))) (reg [⟨(some 25), mv (t 3), none⟩, ⟨(some 26), mv (t 0), none⟩, ⟨(some 27), mv (t 4), none⟩, ⟨(some 28), iad 1 (t 26) (t 27), none⟩, ⟨(some 29), ld (t 28) 1 false, none⟩, ⟨(some 30), mv (t 5), none⟩, ⟨(some 31), iad 2 (t 29) (t 30), none⟩, ⟨(some 32), ld (t 31) 2 true, none⟩, ⟨(some 33), callq (c (.fn 71 [])) [t 32], none⟩, ⟨(some 34), bin .add (t 25) (t 33), none⟩, ⟨(some 3), mv (t 34), none⟩]))) (reg [⟨(some 19), mv (t 5), none⟩, ⟨(some 20), bin .add (t 19) (c (.int .i64 1)), none⟩, ⟨(some 5), mv (t 20), none⟩])))))) (reg [⟨(some 35), mv (t 3), none⟩, ⟨(some 36), bin .add (t 35) (c (.str ⟨#[10]⟩)), none⟩, ⟨(some 3), mv (t 36), none⟩]))) (reg [⟨(some 13), mv (t 4), none⟩, ⟨(some 14), bin .add (t 13) (c (.int .i64 1)), none⟩, ⟨(some 4), mv (t 14), none⟩])))))) (seq (reg [⟨(some 37), mv (t 3), none⟩, ⟨(some 2), mv (t 37), none⟩]) (ret)))))
def r_spec_MatrixText : List ARes := [.tmp 2]
theorem k_spec_MatrixText : acLin Go.Proofs.Tryz.prog 100 1 (inQ [63, 71] []) [] = some (c_spec_MatrixText, r_spec_MatrixText) := by kernel_rfl
def c_laws_szFractionSS : AC := seq (reg [⟨(some 4), mv (c (.int .i64 0)), none⟩]) (seq (reg [⟨(some 6), mv (t 1), none⟩, ⟨(some 7), mv (t 0), none⟩, ⟨(some 8), len (t 7), none⟩, ⟨(some 9), bin .sub (t 6) (t 8), none⟩, ⟨(some 1), mv (t 9), none⟩]) (seq (seq (reg [⟨(some 10), mv (t 1), none⟩, ⟨(some 11), bin .lss (t 10) (c (.int .i64 0)), none⟩]) (cond (t 11) (seq (reg [⟨(some 4), mv (c (.int .i64 (-1))), none⟩]) (ret)) (skip))) (seq (seq (reg [⟨(some 5), mv (c (.int .i64 0)), none⟩]) (block 0 (loop (seq (seq (reg [⟨(some 12), mv (t 5), none⟩, ⟨(some 13), mv (t 0), none⟩, ⟨(some 14), len (t 13), none⟩, ⟨(some 15), bin .lss (t 12) (t 14), none⟩]) (cond (t 15) (skip) (exit 0))) (seq (block 1 (seq (reg [⟨(some 18), mv (t 0), none⟩, ⟨(some 19), mv (t 5), none⟩, ⟨(some 20), iad 1 (t 18) (t 19), none⟩, ⟨(some 21), ld (t 20) 1 false, none⟩, ⟨(some 22), mv (t 1), none⟩, ⟨(some 23), callq (c (.fn 169 [])) [t 21, t 22], none⟩, ⟨(some 1), mv (t 23), none⟩]) (seq (reg [⟨(some 24), mv (t 1), none⟩, ⟨(some 25), bin .lss (t 24) (c (.int .i64 0)), none⟩]) (cond (t 25) (seq (reg [⟨(some 4), mv (c (.int .i64 (-1))), none⟩]) (ret)) (skip))))) (reg [⟨(some 16), mv (t 5), none⟩, ⟨(some 17), bin .add (t 16) (c (.int .i64 1)), none⟩, ⟨(some 5), mv (t 17), none⟩])))))) (seq (reg [⟨(some 26), mv (t 1), none⟩, ⟨(some 4), mv (t 26), none⟩]) (ret)))))
def r_laws_szFractionSS : List ARes := [.tmp 4]
theorem k_laws_szFractionSS : acLin Go.Proofs.Tryz.prog 141 2 (inQ [169] []) [] = some (c_laws_szFractionSS, r_laws_szFractionSS) := by kernel_rfl
def c_laws_toFractionSS : AC := seq (reg [⟨(some 2), mv (c (.sl [] true)), none⟩]) (seq (reg [⟨(some 5), mv (t 0), none⟩, ⟨(some 6), len (t 5), none⟩, ⟨(some 7), mks 1 24 [.sl [] true] (t 6) (t 6), none⟩, ⟨(some 3), mv (t 7), none⟩]) (seq (seq (reg [⟨(some 4), mv (c (.int .i64 0)), none⟩]) (block 0 (loop (seq (seq (reg [⟨(some 8), mv (t 4), none⟩, ⟨(some 9), mv (t 0), none⟩, ⟨(some 10), len (t 9), none⟩, ⟨(some 11), bin .lss (t 8) (t 10), none⟩]) (cond (t 11) (skip) (exit 0))) (seq (block 1 (reg [⟨(some 14), mv (t 3), none⟩, ⟨(some 15), mv (t 4), none⟩, ⟨(some 16), mv (t 0), none⟩, ⟨(some 17), mv (t 4), none⟩, ⟨(some 18), iad 1 (t 16) (t 17), none⟩, ⟨(some 19), ld (t 18) 1 false, none⟩, ⟨(some 20), callq (c (.fn 172 [])) [t 19], none⟩, ⟨(some 21), iad 1 (t 14) (t 15), none⟩, ⟨none, st (t 21) 1 (t 20), none⟩])) (reg [⟨(some 12), mv (t 4), none⟩, ⟨(some 13), bin .add (t 12) (c (.int .i64 1)), none⟩, ⟨(some 4), mv (t 13), none⟩])))))) (seq (reg [⟨(some 22), mv (t 3), none⟩, ⟨(some 2), mv (t 22), none⟩]) (seq shift (ret)))))
def r_laws_toFractionSS : List ARes := [.tmp 2]
theorem k_laws_toFractionSS : acLin Go.Proofs.Tryz.prog 144 1 (inQ [172] []) [⟨false, none, [], [], none⟩, ⟨false, none, [], [], none⟩, ⟨false, none, [], [], none⟩, ⟨false, none, [], [], none⟩, ⟨false, none, [], [], none⟩, ⟨false, none, [], [], none⟩, ⟨false, none, [], [], none⟩, ⟨false, none, [], [], none⟩, ⟨true, none, [], [], none⟩] = some (c_laws_toFractionSS, r_laws_toFractionSS) := by kernel_rfl
def c_laws_eqFractionSS : AC := seq (reg [⟨(some 4), mv (c (.bool false)), none⟩]) (seq (seq (reg [⟨(some 6), mv (t 0), none⟩, ⟨(some 7), len (t 6), none⟩, ⟨(some 8), mv (t 1), none⟩, ⟨(some 9), len (t 8), none⟩, ⟨(some 10), bin .neq (t 7) (t 9), none⟩]) (cond (t 10) (seq (reg [⟨(some 4), mv (c (.bool false)), none⟩]) (ret)) (skip))) (seq (seq (reg [⟨(some 5), mv (c (.int .i64 0)), none⟩]) (block 0 (loop (seq (seq (reg [⟨(some 11), mv (t 5), none⟩, ⟨(some 12), mv (t 0), none⟩, ⟨(some 13), len (t 12), none⟩, ⟨(some 14), bin .lss (t 11) (t 13), none⟩]) (cond (t 14) (skip) (exit 0))) (seq (block 1 (seq (reg [⟨(some 17), mv (t 0), none⟩, ⟨(some 18), mv (t 5), none⟩, ⟨(some 19), iad 1 (t 17) (t 18), none⟩, ⟨(some 20), ld (t 19) 1 false, none⟩, ⟨(some 21), mv (t 1), none⟩, ⟨(some 22), mv (t 5), none⟩, ⟨(some 23), iad 1 (t 21) (t 22), none⟩, ⟨(some 24), ld (t 23) 1 false, none⟩, ⟨(some 25), callq (c (.fn 41 [])) [t 20, t 24], none⟩, ⟨(some 26), un .not (t 25), none⟩]) (cond (t 26) (seq (reg [⟨(some 4), mv (c (.bool false)), none⟩]) (ret)) (skip)))) (reg [⟨(some 15), mv (t 5), none⟩, ⟨(some 16), bin .add (t 15) (c (.int .i64 1)), none⟩, ⟨(some 5), mv (t 16), none⟩])))))) (seq (reg [⟨(some 4), mv (c (.bool true)), none⟩]) (ret))))
def r_laws_eqFractionSS : List ARes := [.tmp 4]
theorem k_laws_eqFractionSS : acLin Go.Proofs.Tryz.prog 23 2 (inQ [41] []) [⟨false, none, [], [], none⟩, ⟨false, none, [], [], none⟩, ⟨false, none, [], [], none⟩, ⟨false, none, [], [], none⟩, ⟨false, none, [], [], none⟩, ⟨false, none, [], [], none⟩, ⟨false, none, [], [], none⟩, ⟨false, some [0, 1, 2, 3, 4, 5, 6, 7, 8, 9], [], [], none⟩] = some (c_laws_eqFractionSS, r_laws_eqFractionSS) := by kernel_rfl
end Go.Proofs.YtlglgcmpeabdnaaGreatDoorAi
end

section
/- Contracts: searching in lists of fractions and of rows; valid lists; valid matrices. -/
namespace Go.Proofs.YtlglgcmpeabdnaaGreatDoorAi
open Go Go.RowKit
set_option linter.unusedVariables false
set_option linter.unusedSimpArgs false
set_option maxRecDepth 20000

@[simp] def rowA (r : List Fr) : AV := .sl (frsA r) false
theorem rowA_inj0 : ∀ x y, rowA x = rowA y → x = y := by
  intro x y h
  simp only [rowA] at h
  injection h with h _
  exact frsA_inj.1 h
abbrev rowsA (M : List (List Fr)) : List AV := mapA rowA M
@[simp] theorem rowsA_inj {l k : List (List Fr)} : mapA rowA l = mapA rowA k ↔ l = k := ⟨mapA_inj rowA_inj0, fun h => by rw [h]⟩

theorem T_indexF {g : FuncId} {caps : List AV} {os : List (Option (List AV))} (f : Fr → Bool) (l : List Fr) (hl : l.length ≤ maxLen) (ho : ClosedH os) (hc : ltL os.length caps = true)
    (hf : ∀ x ∈ l, T PP g ([.agg [.int .i64 x.p, .int .i64 x.q]] ++ caps) ⟨os⟩ fun r A' => r = .bool (f x) ∧ A' = ⟨os⟩) :
    T PP 185 [.sl (frsA l) false, .fn g caps] ⟨os⟩ fun r A' => r = .int .i64 (idxF f l 0) ∧ A' = ⟨os⟩ := by
  refine H_code Quiet.nil hmix k_slices_IndexFunc_Simpl_Fraction_impl_Fraction rfl (fun b => b) (Nat.le_refl _) (fun _ _ => rfl) (injB_id _) (by rfl) ?_
  show wpc os.length PP _ c_slices_IndexFunc_Simpl_Fraction_impl_Fraction (initSt [.sl (frsA l) false, .fn g caps] ⟨os⟩) _
  simp only [maxLen] at hl
  simp -dsimp -implicitDefEqProofs [c_slices_IndexFunc_Simpl_Fraction_impl_Fraction, r_slices_IndexFunc_Simpl_Fraction_impl_Fraction]
  refine wpLoop_st (fun (i : Nat) => ⟨tl [(0, .sl (frsA l) false), (1, .fn g caps), (7, .int .i64 l.length), (8, .int .i64 i)], ⟨os⟩⟩) (fun i => i ≤ l.length ∧ idxF f (l.drop i) i = idxF f l 0) (fun i => l.length - i) 0 ⟨by omega, rfl⟩ (Sub.pre0 ho (by simp [hc])) ?_
  rintro i ⟨hi, hx⟩
  simp -dsimp -implicitDefEqProofs
  refine brW_of (fun h => ?_) (fun h => ?_) <;> simp only [decide_eq_true_eq, decide_eq_false_iff_not] at h
  · have hi' : i < l.length := by omega
    have hw := wrapNat (i := i) (by omega)
    simp -dsimp -implicitDefEqProofs [hi', hw]
    refine (hf l[i] (List.getElem_mem hi')).mono ?_
    rintro r A' ⟨rfl, rfl⟩
    rw [drop_cons hi', idxF] at hx
    cases hv : f l[i] with
    | false =>
      simp only [hv, Bool.false_eq_true, if_false] at hx
      simp -dsimp -implicitDefEqProofs [hw]
      exact .mk (i + 1) ⟨by omega, hx⟩ (by omega) (Sub.pre0 ho (by simp [hw, hc]))
    | true =>
      simp only [hv, if_true] at hx
      simp -dsimp -implicitDefEqProofs [← hx, hsub_all ho]
  · have : i = l.length := by omega
    subst this
    simp [idxF] at hx
    simp -dsimp -implicitDefEqProofs [← hx, hsub_all ho]
noncomputable def yesF (sp : List AV → AHeap → Option (AV × AHeap)) (caps : List AV) (A : AHeap) (x : Fr) : Bool := yesOf sp ([.agg [.int .i64 x.p, .int .i64 x.q]] ++ caps) A
open Classical in
noncomputable def spIdxF (g : FuncId) (sp : List AV → AHeap → Option (AV × AHeap)) : List AV → AHeap → Option (AV × AHeap)
  | [.sl xs false, .fn g' caps], A => if h : g' = g ∧ ∃ l : List Fr, xs = frsA l ∧ l.length ≤ maxLen ∧ ∀ x ∈ l, sp ([.agg [.int .i64 x.p, .int .i64 x.q]] ++ caps) A = some (.bool (yesF sp caps A x), A)
      then some (.int .i64 (idxF (yesF sp caps A) h.2.choose 0), A) else none
  | _, _ => none
theorem spIdxF_eq {g : FuncId} {sp : List AV → AHeap → Option (AV × AHeap)} (f : Fr → Bool) {l : List Fr} {caps : List AV} {A : AHeap} (hl : l.length ≤ maxLen) (h : ∀ x ∈ l, sp ([.agg [.int .i64 x.p, .int .i64 x.q]] ++ caps) A = some (.bool (f x), A)) :
    spIdxF g sp [.sl (frsA l) false, .fn g caps] A = some (.int .i64 (idxF f l 0), A) := by
  have hy : ∀ x ∈ l, yesF sp caps A x = f x := by
    intro x hx
    unfold yesF yesOf
    rw [h x hx]
  have hc : g = g ∧ ∃ k : List Fr, frsA l = frsA k ∧ k.length ≤ maxLen ∧ ∀ x ∈ k, sp ([.agg [.int .i64 x.p, .int .i64 x.q]] ++ caps) A = some (.bool (yesF sp caps A x), A) := ⟨rfl, l, rfl, hl, fun x hx => by rw [hy x hx]; exact h x hx⟩
  unfold spIdxF
  dsimp only
  rw [dif_pos hc]
  have e : hc.2.choose = l := (frsA_inj.1 hc.2.choose_spec.1).symm
  rw [e]
  have : ∀ (l : List Fr) (i : Nat), (∀ x ∈ l, yesF sp caps A x = f x) → idxF (yesF sp caps A) l i = idxF f l i := by
    intro l
    induction l with
    | nil => intro _ _; rfl
    | cons x l ih => intro i h; rw [idxF, idxF, h x (List.mem_cons_self ..), ih _ fun y hy => h y (List.mem_cons_of_mem _ hy)]
  rw [this l 0 hy]
theorem QE_idxF {g : FuncId} {sp : List AV → AHeap → Option (AV × AHeap)} (hg : QE PP g sp) : QE PP 185 (spIdxF g sp) := by
  intro args A r A1 e
  unfold spIdxF at e
  split at e
  · rename_i xs g' caps
    split at e
    · rename_i hc
      obtain ⟨rfl, hx⟩ := hc
      injection e with e
      injection e with e1 e2
      subst e1; subst e2
      obtain ⟨h1, h2, h3⟩ := hx.choose_spec
      generalize hx.choose = l at h1 h2 h3
      subst h1
      refine T.of_closed (T_indexF (g := g') (caps := []) (os := []) (fun _ => true) [] (by simp) ClosedH.nil rfl (fun x hx => (by cases hx))).1 fun ho hl => ?_
      exact T_indexF (os := A.l) _ l h2 ho (by simpa [ltL, AV.lt] using hl) fun x hx => hg _ _ _ _ (h3 x hx)
    · cases e
  · cases e
theorem T_anyF {g : FuncId} {sp : List AV → AHeap → Option (AV × AHeap)} (hg : QE PP g sp) {caps : List AV} {os : List (Option (List AV))} (f : Fr → Bool) (l : List Fr) (hl : l.length ≤ maxLen) (ho : ClosedH os) (hc : ltL os.length caps = true) (hcl : looseL caps = caps)
    (hf : ∀ x ∈ l, sp ([.agg [.int .i64 x.p, .int .i64 x.q]] ++ caps) ⟨os⟩ = some (.bool (f x), ⟨os⟩)) :
    T PP 156 [.sl (frsA l) false, .fn g caps] ⟨os⟩ fun r A' => r = .bool (l.any f) ∧ A' = ⟨os⟩ := by
  refine H_code (Quiet.e1 (QE_idxF hg) Quiet.nil) hmix k_slices_ContainsFunc_Simpl_Fraction_impl_Fraction rfl (fun b => b) (Nat.le_refl _) (fun _ _ => rfl) (injB_id _) (by rfl) ?_
  show wpc os.length PP _ c_slices_ContainsFunc_Simpl_Fraction_impl_Fraction (initSt [.sl (frsA l) false, .fn g caps] ⟨os⟩) _
  simp -dsimp -implicitDefEqProofs [c_slices_ContainsFunc_Simpl_Fraction_impl_Fraction, r_slices_ContainsFunc_Simpl_Fraction_impl_Fraction, hcl, spIdxF_eq f hl hf, hsub_all ho, ← idxF_ge f l 0]
open Classical in
noncomputable def spAnyF (g : FuncId) (sp : List AV → AHeap → Option (AV × AHeap)) : List AV → AHeap → Option (AV × AHeap)
  | [.sl xs false, .fn g' caps], A => if h : g' = g ∧ looseL caps = caps ∧ ∃ l : List Fr, xs = frsA l ∧ l.length ≤ maxLen ∧ ∀ x ∈ l, sp ([.agg [.int .i64 x.p, .int .i64 x.q]] ++ caps) A = some (.bool (yesF sp caps A x), A)
      then some (.bool (h.2.2.choose.any (yesF sp caps A)), A) else none
  | _, _ => none
theorem spAnyF_eq {g : FuncId} {sp : List AV → AHeap → Option (AV × AHeap)} (f : Fr → Bool) {l : List Fr} {caps : List AV} {A : AHeap} (hl : l.length ≤ maxLen) (hcl : looseL caps = caps) (h : ∀ x ∈ l, sp ([.agg [.int .i64 x.p, .int .i64 x.q]] ++ caps) A = some (.bool (f x), A)) :
    spAnyF g sp [.sl (frsA l) false, .fn g caps] A = some (.bool (l.any f), A) := by
  have hy : ∀ x ∈ l, yesF sp caps A x = f x := by
    intro x hx
    unfold yesF yesOf
    rw [h x hx]
  have hc : g = g ∧ looseL caps = caps ∧ ∃ k : List Fr, frsA l = frsA k ∧ k.length ≤ maxLen ∧ ∀ x ∈ k, sp ([.agg [.int .i64 x.p, .int .i64 x.q]] ++ caps) A = some (.bool (yesF sp caps A x), A) := ⟨rfl, hcl, l, rfl, hl, fun x hx => by rw [hy x hx]; exact h x hx⟩
  unfold spAnyF
  dsimp only
  rw [dif_pos hc]
  have e : hc.2.2.choose = l := (frsA_inj.1 hc.2.2.choose_spec.1).symm
  rw [e]
  have : l.any (yesF sp caps A) = l.any f := by
    clear e hc h hl
    induction l with
    | nil => rfl
    | cons x l ih => rw [List.any_cons, List.any_cons, hy x (List.mem_cons_self ..), ih fun y hm => hy y (List.mem_cons_of_mem _ hm)]
  rw [this]
theorem QE_anyF {g : FuncId} {sp : List AV → AHeap → Option (AV × AHeap)} (hg : QE PP g sp) : QE PP 156 (spAnyF g sp) := by
  intro args A r A1 e
  unfold spAnyF at e
  split at e
  · rename_i xs g' caps
    split at e
    · rename_i hc
      obtain ⟨rfl, hcl, hx⟩ := hc
      injection e with e
      injection e with e1 e2
      subst e1; subst e2
      obtain ⟨h1, h2, h3⟩ := hx.choose_spec
      generalize hx.choose = l at h1 h2 h3
      subst h1
      refine T.of_closed (T_anyF hg (caps := []) (os := []) (fun _ => true) [] (by simp) ClosedH.nil rfl rfl (fun x hx => (by cases hx))).1 fun ho hl => ?_
      exact T_anyF hg (os := A.l) _ l h2 ho (by simpa [ltL, AV.lt] using hl) hcl h3
    · cases e
  · cases e


theorem T_indexM {g : FuncId} {caps : List AV} {os : List (Option (List AV))} (f : (List Fr) → Bool) (l : List (List Fr)) (hl : l.length ≤ maxLen) (ho : ClosedH os) (hc : ltL os.length caps = true)
    (hf : ∀ x ∈ l, T PP g ([.sl (frsA x) false] ++ caps) ⟨os⟩ fun r A' => r = .bool (f x) ∧ A' = ⟨os⟩) :
    T PP 155 [.sl (rowsA l) false, .fn g caps] ⟨os⟩ fun r A' => r = .int .i64 (idxF f l 0) ∧ A' = ⟨os⟩ := by
  refine H_code Quiet.nil hmix k_slices_IndexFunc_SSimpl_Fraction_Simpl_Fraction rfl (fun b => b) (Nat.le_refl _) (fun _ _ => rfl) (injB_id _) (by rfl) ?_
  show wpc os.length PP _ c_slices_IndexFunc_SSimpl_Fraction_Simpl_Fraction (initSt [.sl (rowsA l) false, .fn g caps] ⟨os⟩) _
  simp only [maxLen] at hl
  simp -dsimp -implicitDefEqProofs [c_slices_IndexFunc_SSimpl_Fraction_Simpl_Fraction, r_slices_IndexFunc_SSimpl_Fraction_Simpl_Fraction]
  refine wpLoop_st (fun (i : Nat) => ⟨tl [(0, .sl (rowsA l) false), (1, .fn g caps), (7, .int .i64 l.length), (8, .int .i64 i)], ⟨os⟩⟩) (fun i => i ≤ l.length ∧ idxF f (l.drop i) i = idxF f l 0) (fun i => l.length - i) 0 ⟨by omega, rfl⟩ (Sub.pre0 ho (by simp [hc])) ?_
  rintro i ⟨hi, hx⟩
  simp -dsimp -implicitDefEqProofs
  refine brW_of (fun h => ?_) (fun h => ?_) <;> simp only [decide_eq_true_eq, decide_eq_false_iff_not] at h
  · have hi' : i < l.length := by omega
    have hw := wrapNat (i := i) (by omega)
    simp -dsimp -implicitDefEqProofs [hi', hw]
    refine (hf l[i] (List.getElem_mem hi')).mono ?_
    rintro r A' ⟨rfl, rfl⟩
    rw [drop_cons hi', idxF] at hx
    cases hv : f l[i] with
    | false =>
      simp only [hv, Bool.false_eq_true, if_false] at hx
      simp -dsimp -implicitDefEqProofs [hw]
      exact .mk (i + 1) ⟨by omega, hx⟩ (by omega) (Sub.pre0 ho (by simp [hw, hc]))
    | true =>
      simp only [hv, if_true] at hx
      simp -dsimp -implicitDefEqProofs [← hx, hsub_all ho]
  · have : i = l.length := by omega
    subst this
    simp [idxF] at hx
    simp -dsimp -implicitDefEqProofs [← hx, hsub_all ho]
noncomputable def yesM (sp : List AV → AHeap → Option (AV × AHeap)) (caps : List AV) (A : AHeap) (x : (List Fr)) : Bool := yesOf sp ([.sl (frsA x) false] ++ caps) A
open Classical in
noncomputable def spIdxM (g : FuncId) (sp : List AV → AHeap → Option (AV × AHeap)) : List AV → AHeap → Option (AV × AHeap)
  | [.sl xs false, .fn g' caps], A => if h : g' = g ∧ ∃ l : List (List Fr), xs = rowsA l ∧ l.length ≤ maxLen ∧ ∀ x ∈ l, sp ([.sl (frsA x) false] ++ caps) A = some (.bool (yesM sp caps A x), A)
      then some (.int .i64 (idxF (yesM sp caps A) h.2.choose 0), A) else none
  | _, _ => none
theorem spIdxM_eq {g : FuncId} {sp : List AV → AHeap → Option (AV × AHeap)} (f : (List Fr) → Bool) {l : List (List Fr)} {caps : List AV} {A : AHeap} (hl : l.length ≤ maxLen) (h : ∀ x ∈ l, sp ([.sl (frsA x) false] ++ caps) A = some (.bool (f x), A)) :
    spIdxM g sp [.sl (rowsA l) false, .fn g caps] A = some (.int .i64 (idxF f l 0), A) := by
  have hy : ∀ x ∈ l, yesM sp caps A x = f x := by
    intro x hx
    unfold yesM yesOf
    rw [h x hx]
  have hc : g = g ∧ ∃ k : List (List Fr), rowsA l = rowsA k ∧ k.length ≤ maxLen ∧ ∀ x ∈ k, sp ([.sl (frsA x) false] ++ caps) A = some (.bool (yesM sp caps A x), A) := ⟨rfl, l, rfl, hl, fun x hx => by rw [hy x hx]; exact h x hx⟩
  unfold spIdxM
  dsimp only
  rw [dif_pos hc]
  have e : hc.2.choose = l := (rowsA_inj.1 hc.2.choose_spec.1).symm
  rw [e]
  have : ∀ (l : List (List Fr)) (i : Nat), (∀ x ∈ l, yesM sp caps A x = f x) → idxF (yesM sp caps A) l i = idxF f l i := by
    intro l
    induction l with
    | nil => intro _ _; rfl
    | cons x l ih => intro i h; rw [idxF, idxF, h x (List.mem_cons_self ..), ih _ fun y hy => h y (List.mem_cons_of_mem _ hy)]
  rw [this l 0 hy]
theorem QE_idxM {g : FuncId} {sp : List AV → AHeap → Option (AV × AHeap)} (hg : QE PP g sp) : QE PP 155 (spIdxM g sp) := by
  intro args A r A1 e
  unfold spIdxM at e
  split at e
  · rename_i xs g' caps
    split at e
    · rename_i hc
      obtain ⟨rfl, hx⟩ := hc
      injection e with e
      injection e with e1 e2
      subst e1; subst e2
      obtain ⟨h1, h2, h3⟩ := hx.choose_spec
      generalize hx.choose = l at h1 h2 h3
      subst h1
      refine T.of_closed (T_indexM (g := g') (caps := []) (os := []) (fun _ => true) [] (by simp) ClosedH.nil rfl (fun x hx => (by cases hx))).1 fun ho hl => ?_
      exact T_indexM (os := A.l) _ l h2 ho (by simpa [ltL, AV.lt] using hl) fun x hx => hg _ _ _ _ (h3 x hx)
    · cases e
  · cases e
theorem T_anyM {g : FuncId} {sp : List AV → AHeap → Option (AV × AHeap)} (hg : QE PP g sp) {caps : List AV} {os : List (Option (List AV))} (f : (List Fr) → Bool) (l : List (List Fr)) (hl : l.length ≤ maxLen) (ho : ClosedH os) (hc : ltL os.length caps = true) (hcl : looseL caps = caps)
    (hf : ∀ x ∈ l, sp ([.sl (frsA x) false] ++ caps) ⟨os⟩ = some (.bool (f x), ⟨os⟩)) :
    T PP 116 [.sl (rowsA l) false, .fn g caps] ⟨os⟩ fun r A' => r = .bool (l.any f) ∧ A' = ⟨os⟩ := by
  refine H_code (Quiet.e1 (QE_idxM hg) Quiet.nil) hmix k_slices_ContainsFunc_SSimpl_Fraction_Simpl_Fraction rfl (fun b => b) (Nat.le_refl _) (fun _ _ => rfl) (injB_id _) (by rfl) ?_
  show wpc os.length PP _ c_slices_ContainsFunc_SSimpl_Fraction_Simpl_Fraction (initSt [.sl (rowsA l) false, .fn g caps] ⟨os⟩) _
  simp -dsimp -implicitDefEqProofs [c_slices_ContainsFunc_SSimpl_Fraction_Simpl_Fraction, r_slices_ContainsFunc_SSimpl_Fraction_Simpl_Fraction, hcl, spIdxM_eq f hl hf, hsub_all ho, ← idxF_ge f l 0]
open Classical in
noncomputable def spAnyM (g : FuncId) (sp : List AV → AHeap → Option (AV × AHeap)) : List AV → AHeap → Option (AV × AHeap)
  | [.sl xs false, .fn g' caps], A => if h : g' = g ∧ looseL caps = caps ∧ ∃ l : List (List Fr), xs = rowsA l ∧ l.length ≤ maxLen ∧ ∀ x ∈ l, sp ([.sl (frsA x) false] ++ caps) A = some (.bool (yesM sp caps A x), A)
      then some (.bool (h.2.2.choose.any (yesM sp caps A)), A) else none
  | _, _ => none
theorem spAnyM_eq {g : FuncId} {sp : List AV → AHeap → Option (AV × AHeap)} (f : (List Fr) → Bool) {l : List (List Fr)} {caps : List AV} {A : AHeap} (hl : l.length ≤ maxLen) (hcl : looseL caps = caps) (h : ∀ x ∈ l, sp ([.sl (frsA x) false] ++ caps) A = some (.bool (f x), A)) :
    spAnyM g sp [.sl (rowsA l) false, .fn g caps] A = some (.bool (l.any f), A) := by
  have hy : ∀ x ∈ l, yesM sp caps A x = f x := by
    intro x hx
    unfold yesM yesOf
    rw [h x hx]
  have hc : g = g ∧ looseL caps = caps ∧ ∃ k : List (List Fr), rowsA l = rowsA k ∧ k.length ≤ maxLen ∧ ∀ x ∈ k, sp ([.sl (frsA x) false] ++ caps) A = some (.bool (yesM sp caps A x), A) := ⟨rfl, hcl, l, rfl, hl, fun x hx => by rw [hy x hx]; exact h x hx⟩
  unfold spAnyM
  dsimp only
  rw [dif_pos hc]
  have e : hc.2.2.choose = l := (rowsA_inj.1 hc.2.2.choose_spec.1).symm
  rw [e]
  have : l.any (yesM sp caps A) = l.any f := by
    clear e hc h hl
    induction l with
    | nil => rfl
    | cons x l ih => rw [List.any_cons, List.any_cons, hy x (List.mem_cons_self ..), ih fun y hm => hy y (List.mem_cons_of_mem _ hm)]
  rw [this]
theorem QE_anyM {g : FuncId} {sp : List AV → AHeap → Option (AV × AHeap)} (hg : QE PP g sp) : QE PP 116 (spAnyM g sp) := by
  intro args A r A1 e
  unfold spAnyM at e
  split at e
  · rename_i xs g' caps
    split at e
    · rename_i hc
      obtain ⟨rfl, hcl, hx⟩ := hc
      injection e with e
      injection e with e1 e2
      subst e1; subst e2
      obtain ⟨h1, h2, h3⟩ := hx.choose_spec
      generalize hx.choose = l at h1 h2 h3
      subst h1
      refine T.of_closed (T_anyM hg (caps := []) (os := []) (fun _ => true) [] (by simp) ClosedH.nil rfl rfl (fun x hx => (by cases hx))).1 fun ho hl => ?_
      exact T_anyM hg (os := A.l) _ l h2 ho (by simpa [ltL, AV.lt] using hl) hcl h3
    · cases e
  · cases e


/-! ### valid lists -/
theorem e_anyF_bad : QE PP 156 (spAnyF 90 (spR sp_badFraction)) := QE_anyF q_impl_badFraction.toR
theorem any_badF (l : List Fr) : (l.any fun x => !frOk x.p x.q) = !allOk l := by
  unfold allOk
  rw [List.not_all_eq_any_not]
noncomputable def sp_validL : List AV → Option (AV) := pf (ι := (List Fr)) (α := AV) (fun l => l.length ≤ maxLen) (fun l => [.sl (frsA l) false]) (fun l => .bool (decide (l.length ≤ 256) && allOk l))
theorem sp_validL_eq (l : List Fr) (h : l.length ≤ maxLen) : sp_validL [.sl (frsA l) false] = some (.bool (decide (l.length ≤ 256) && allOk l)) := by
  unfold sp_validL
  exact pf_eq (ι := (List Fr)) (α := AV) l h (by rintro l' _ e; simp_all [Int.natCast_inj])
theorem q_impl_validList : QP PP 118 sp_validL := by
  refine QP_pf (fun l h => ?_) fun l h => ?_
  · exact ⟨by first | rfl | simp, by first | rfl | simp⟩
  replace h : l.length ≤ maxLen := h
  refine P_code (Quiet.e1 e_anyF_bad Quiet.nil) hmix k_impl_validList rfl ?_ ?_
  · first | rfl | simp
  show wpc 0 PP _ c_impl_validList (initSt [.sl (frsA l) false] .nil) (endP r_impl_validList (.bool (decide (l.length ≤ 256) && allOk l)))
  have hany := spAnyF_eq (g := 90) (sp := spR sp_badFraction) (fun x => !frOk x.p x.q) (l := l) (caps := []) (A := ⟨[]⟩) h rfl (fun x hx => by
    have := sp_badFraction_eq x.p x.q
    simp [spR, seeL_cons, seeL_nil, seeV_int, seeV_agg, this, AV.flat])
  rw [any_badF] at hany
  by_cases h6 : l.length ≤ 256
  · have h6' : (l.length : Int) ≤ 256 := by omega
    simp -dsimp -implicitDefEqProofs [c_impl_validList, r_impl_validList, hany, h6, h6']
  · have h6' : ¬ (l.length : Int) ≤ 256 := by omega
    simp -dsimp -implicitDefEqProofs [c_impl_validList, r_impl_validList, hany, h6, h6']
end Go.Proofs.YtlglgcmpeabdnaaGreatDoorAi
end

section
/- Contracts: strings.Join. -/
namespace Go.Proofs.YtlglgcmpeabdnaaGreatDoorAi
open Go Go.RowKit
set_option linter.unusedVariables false
set_option linter.unusedSimpArgs false
set_option maxRecDepth 20000

/-- A library's function of which the result is known, that reads what its arguments reach and leaves memory as it is but for new blocks. -/
theorem T.libS {P : Program} {f : FuncId} {args : List AV} {r : AV} (he : Enters P f) (h : ∀ (σ : Sg) (w : World) (vs : List Value), RepL σ args vs → (∀ b off v, σ.cell b off = some v → w.cell? ⟨b, off, none⟩ = some v) → GoodW P w → Calls P f vs.toArray w fun e w' => ∃ v, e = .returned v ∧ Below w.heap.size w w' ∧ Rep σ r v) (A : AHeap) :
    T P f args A fun r' A' => r' = r ∧ A' = A := by
  refine ⟨he, fun B w0 σ w vs hG hb hs ha => (h σ w vs ha (fun b off v e => hs.cell e) (hG w hb)).mono fun e w' ⟨v, e1, e2, e3⟩ => ?_⟩
  refine ⟨r, A, v, σ, e1, ⟨rfl, rfl⟩, ⟨fun _ _ h => h, fun _ _ h => h, rfl, fun _ _ h => h⟩, hs.under e2, e3, hb.trans ⟨e2.os, e2.tape, e2.output, e2.size, fun k hk => e2.block k (hs.base k hk)⟩⟩

theorem rep_sl_inv {σ : Sg} {xs : List AV} {t : Bool} {v : Value} (h : Rep σ (.sl xs t) v) : (xs = [] ∧ ∃ a c, v = .slice a 0 c) ∨ ∃ b off c s, v = .slice (some ⟨b, off, none⟩) xs.length c ∧ xs.length ≤ c ∧
    ∀ (i : Nat) (x : AV), xs[i]? = some x → x.cells.length = s ∧ ∀ (j : Nat) (c : AV), x.cells[j]? = some c → ∃ u, σ.cell b (off + i * s + j) = some u ∧ Rep σ c u := by
  cases h with
  | slnil t a cap => exact .inl ⟨rfl, _, _, rfl⟩
  | sl xs t b off s cap val hlen hcap ht hs hm hr h1 hp =>
    exact .inr ⟨b, off, cap, s, rfl, hlen, fun i x hx => ⟨hs i x hx, fun j c hj => ⟨_, hm i x hx j c hj, hr i x hx j c hj⟩⟩⟩
@[simp] def strA (s : ByteArray) : AV := .str s
theorem strA_inj0 : ∀ x y, strA x = strA y → x = y := by
  intro x y h
  simp only [strA] at h
  injection h
abbrev strsA (l : List ByteArray) : List AV := mapA strA l
@[simp] theorem strsA_inj {l k : List ByteArray} : mapA strA l = mapA strA k ↔ l = k := ⟨mapA_inj strA_inj0, fun h => by rw [h]⟩
instance : Plain strA 1 := ⟨fun _ => rfl, by omega, fun _ => rfl, fun _ => rfl, fun _ => rfl, fun _ _ => rfl⟩
def joinT (l : List ByteArray) (sep : ByteArray) : ByteArray := ⟨(Go.Lib.join (l.map (·.data.toList)) sep.data.toList).toArray⟩
noncomputable def sp_joinS : List AV → Option (AV) := pf (ι := (List ByteArray) × (ByteArray)) (α := AV) (fun ⟨l, sep⟩ => l.length ≤ 1048576 ∧ (joinT l sep).size ≤ 140737488355328) (fun ⟨l, sep⟩ => [.sl (strsA l) false, .str sep]) (fun ⟨l, sep⟩ => .str (joinT l sep))
theorem sp_joinS_eq (l : List ByteArray) (sep : ByteArray) (h : l.length ≤ 1048576 ∧ (joinT l sep).size ≤ 140737488355328) : sp_joinS [.sl (strsA l) false, .str sep] = some (.str (joinT l sep)) := by
  unfold sp_joinS
  exact pf_eq (ι := (List ByteArray) × (ByteArray)) (α := AV) (l, sep) h (by rintro ⟨l', sep'⟩ _ e; simp_all [Int.natCast_inj])
theorem q_strings_Join : QP PP 111 sp_joinS := by
  refine QP_pf (fun i h => ?_) fun i h => ?_
  · obtain ⟨l, sep⟩ := i; exact ⟨by first | rfl | simp, by first | rfl | simp⟩
  obtain ⟨l, sep⟩ := i
  replace h : l.length ≤ 1048576 ∧ (joinT l sep).size ≤ 140737488355328 := h
  refine T.libS ⟨_, Tryz.func111, by kernel_rfl, by kernel_rfl⟩ (fun σ w vs hr hc hG => ?_) .nil
  obtain ⟨v1, us, rfl, h1, h2⟩ := hr.head
  obtain ⟨v2, us2, rfl, h3, h4⟩ := h2.head
  obtain rfl : us2 = [] := List.eq_nil_of_length_eq_zero h4.1.symm
  cases h3
  by_cases hl : l = []
  · have hv : ∃ a c, v1 = .slice a 0 c := by
      rcases rep_sl_inv h1 with ⟨_, h5⟩ | ⟨b, off, c, s, h5, _⟩
      · exact h5
      · exact ⟨_, _, by rw [h5, hl]; rfl⟩
    obtain ⟨a, c, rfl⟩ := hv
    refine (Tryz.strings_Join_none a c sep w).mono ?_
    rintro e w' ⟨rfl, rfl⟩
    refine ⟨_, rfl, Below.refl _ _, ?_⟩
    rw [hl]; exact .str _
  · have hv : ∃ b off c, v1 = .slice (some ⟨b, off, none⟩) l.length c ∧ l.length ≤ c ∧ ∀ (j : Nat) x, l[j]? = some x → w.cell? ⟨b, off + j, none⟩ = some (.string x) := by
      rcases rep_sl_inv h1 with ⟨h5, _⟩ | ⟨b, off, c, s, h5, h6, h7⟩
      · exact absurd (by simpa [mapA] using h5) hl
      · refine ⟨b, off, c, by rw [h5]; simp, by simpa using h6, fun j x hx => ?_⟩
        have hj : (mapA strA l)[j]? = some (strA x) := by simp [hx]
        obtain ⟨e1, e2⟩ := h7 j _ hj
        have e1 : 1 = s := e1
        subst e1
        obtain ⟨u, e3, e4⟩ := e2 0 (.str x) rfl
        have e5 := hc _ _ _ e3
        cases e4
        simpa using e5
    obtain ⟨b, off, c, rfl, hcap, hcells⟩ := hv
    have hbk : b < w.heap.size := by
      cases l with
      | nil => exact absurd rfl hl
      | cons x l =>
        have := hcells 0 x rfl
        unfold World.cell? at this
        rcases Nat.lt_or_ge b w.heap.size with hlt | hge
        · exact hlt
        · rw [Array.getElem?_eq_none hge] at this; cases this
    refine (Tryz.strings_Join b off c l sep w hcells hbk (by omega) hcap (by have := h.2; unfold joinT at this; simpa [ByteArray.size] using this)).mono ?_
    rintro e w' ⟨rfl, hb⟩
    exact ⟨_, rfl, hb, .str _⟩
end Go.Proofs.YtlglgcmpeabdnaaGreatDoorAi
end

section
/- Contracts: texts of lists of fractions and of matrices. -/
namespace Go.Proofs.YtlglgcmpeabdnaaGreatDoorAi
open Go Go.RowKit
set_option linter.unusedVariables false
set_option linter.unusedSimpArgs false
set_option maxRecDepth 20000

theorem ljoin_cons2 (x y : List UInt8) (r : List (List UInt8)) (sep : List UInt8) : Go.Lib.join (x :: y :: r) sep = x ++ (sep ++ Go.Lib.join (y :: r) sep) := by
  simp [Go.Lib.join, List.intercalate, List.intersperse]
theorem ljoin_snoc (sep x : List UInt8) : ∀ (l : List (List UInt8)), l ≠ [] → Go.Lib.join (l ++ [x]) sep = Go.Lib.join l sep ++ (sep ++ x)
  | [], h => absurd rfl h
  | [y], _ => by
    show Go.Lib.join [y, x] sep = _
    rw [ljoin_cons2, Go.Lib.join_one, Go.Lib.join_one]
  | y :: z :: r, _ => by
    show Go.Lib.join (y :: z :: (r ++ [x])) sep = _
    have ih := ljoin_snoc sep x (z :: r) (by simp)
    rw [ljoin_cons2, ljoin_cons2]
    rw [List.cons_append] at ih
    rw [ih]
    simp only [List.append_assoc]
theorem joinT_nil (sep : ByteArray) : joinT [] sep = ⟨#[]⟩ := rfl
theorem joinT_one (x sep : ByteArray) : joinT [x] sep = x := by
  unfold joinT; rw [List.map_cons, List.map_nil, Go.Lib.join_one]
theorem joinT_snoc (sep x : ByteArray) (l : List ByteArray) (h : l ≠ []) : joinT (l ++ [x]) sep = joinT l sep ++ (sep ++ x) := by
  unfold joinT
  rw [List.map_append, List.map_cons, List.map_nil, ljoin_snoc _ _ _ (by simpa using h)]
  apply ByteArray.ext
  simp
theorem joinT_size (sep : ByteArray) (m : Nat) : ∀ (l : List ByteArray), (∀ x ∈ l, x.size ≤ m) → (joinT l sep).size ≤ l.length * (m + sep.size)
  | [], _ => by simp [joinT_nil]
  | [y], h => by
    have := h y (List.mem_cons_self ..)
    rw [joinT_one, List.length_singleton]; omega
  | y :: z :: r, h => by
    have h1 := joinT_size sep m (z :: r) fun x hx => h x (List.mem_cons_of_mem _ hx)
    have h2 := h y (List.mem_cons_self ..)
    have e : (joinT (y :: z :: r) sep).size = y.size + (sep.size + (joinT (z :: r) sep).size) := by
      unfold joinT
      rw [List.map_cons, List.map_cons, ljoin_cons2]
      simp only [ba_size, List.size_toArray, List.length_append, Array.length_toList]
      rfl
    rw [e, List.length_cons, Nat.add_mul]
    rw [List.length_cons] at h1 ⊢
    omega
def oneB : ByteArray := ⟨#[32]⟩
def frS (x : Fr) : ByteArray := frT x.p x.q
def fracsT (l : List Fr) : ByteArray := joinT (l.map frS) oneB
theorem frS_size {x : Fr} (h : frOk x.p x.q = true) : (frS x).size ≤ 43 := by
  have hb := frOk_bd h
  have s1 := decB_size x.p (by omega) (by omega)
  have s2 := decB_size x.q (by omega) (by omega)
  unfold frS frT
  split
  · omega
  · have : slashB.size = 1 := rfl
    simp only [ByteArray.size_append]; omega
theorem allOk_get {l : List Fr} (h : allOk l = true) : ∀ x ∈ l, frOk x.p x.q = true := by
  unfold allOk at h
  exact fun x hx => List.all_eq_true.1 h x hx
theorem fracsT_size {l : List Fr} (h : allOk l = true) : (fracsT l).size ≤ l.length * 44 := by
  have := joinT_size oneB 43 (l.map frS) (by
    intro x hx
    obtain ⟨y, hy, rfl⟩ := List.mem_map.1 hx
    exact frS_size (allOk_get h y hy))
  have e : oneB.size = 1 := rfl
  rw [e, List.length_map] at this
  exact this
def lvS (N : Nat) (L : List ByteArray) : AV := if L = [] then .sl [] true else .ref N 1 0 L.length .full
def obS (L : List ByteArray) : List (Option (List AV)) := if L = [] then [] else [some (flatA (strsA L))]
theorem lvS_nil (N : Nat) : lvS N [] = .sl [] true := rfl
theorem obS_nil : obS [] = [] := rfl
theorem lvS_cons {N : Nat} {L : List ByteArray} (h : L ≠ []) : lvS N L = .ref N 1 0 L.length .full := if_neg h
theorem obS_cons {L : List ByteArray} (h : L ≠ []) : obS L = [some (flatA (strsA L))] := if_neg h
theorem strS_snoc (L : List ByteArray) (s : ByteArray) : flatA (strsA L) ++ [.str s] = flatA (strsA (L ++ [s])) := by
  rw [flatA_append]; rfl
@[simp] theorem gath_str (l : List ByteArray) (n : Nat) (h : n = l.length) : gath 1 n (flatA (mapA strA l)) = mapA strA l := flatA_gath l n h
def ftSt (l : List Fr) (i : Nat) : St := ⟨tl [(3, lvS 0 ((l.map frS).take i)), (7, .sl (frsA l) false), (8, .int .i64 l.length), (9, .int .i64 i)], ⟨obS ((l.map frS).take i)⟩⟩
noncomputable def sp_fracsText : List AV → Option (AV) := pf (ι := (List Fr)) (α := AV) (fun l => allOk l = true ∧ l.length ≤ 256) (fun l => [.sl (frsA l) false]) (fun l => .str (fracsT l))
theorem sp_fracsText_eq (l : List Fr) (h : allOk l = true ∧ l.length ≤ 256) : sp_fracsText [.sl (frsA l) false] = some (.str (fracsT l)) := by
  unfold sp_fracsText
  exact pf_eq (ι := (List Fr)) (α := AV) l h (by rintro l' _ e; simp_all [Int.natCast_inj])
theorem q_impl_fractionsText : QP PP 94 sp_fracsText := by
  refine QP_pf (fun l h => ?_) fun l h => ?_
  · exact ⟨by first | rfl | simp, by first | rfl | simp⟩
  replace h : allOk l = true ∧ l.length ≤ 256 := h
  refine P_code (Quiet.q1 q_impl_Fraction_text (Quiet.e1 q_strings_Join.toR Quiet.nil)) hmix k_impl_fractionsText rfl ?_ ?_
  · first | rfl | simp
  show wpc 0 PP _ c_impl_fractionsText (initSt [.sl (frsA l) false] .nil) (endP r_impl_fractionsText (.str (fracsT l)))
  obtain ⟨ho, hl⟩ := h
  have hj := sp_joinS_eq (l.map frS) oneB ⟨by simp; omega, by have := fracsT_size ho; unfold fracsT at this; omega⟩
  simp -dsimp -implicitDefEqProofs [c_impl_fractionsText, r_impl_fractionsText]
  refine wpLoop_st (ftSt l) (fun i => i ≤ l.length) (fun i => l.length - i) 0 (by omega) (Sub.keep (by simp [ftSt, obS_nil]) (by simp [hsub, ftSt, obS_nil]) (by simp [ftSt, lvS_nil])) ?_
  intro i hi
  simp -dsimp -implicitDefEqProofs [ftSt]
  refine brW_of (fun h => ?_) (fun h => ?_) <;> simp only [decide_eq_true_eq, decide_eq_false_iff_not] at h
  · have hx : i < l.length := by omega
    have hwi := wrapNat (i := i) (by omega)
    have hb := frOk_bd (allOk_get ho l[i] (List.getElem_mem hx))
    have ht := sp_frText_eq l[i].p l[i].q ⟨by omega, by omega⟩
    have e4 : (l.map frS).take (i + 1) = (l.map frS).take i ++ [frS l[i]] := by rw [take_snoc (l.map frS) i (by simpa using hx), List.getElem_map]
    have hlen : ((l.map frS).take i).length = i := by simp; omega
    have e6 : frT l[i].p l[i].q = frS l[i] := rfl
    have e2 := strS_snoc ((l.map frS).take i) (frS l[i])
    by_cases hL : (l.map frS).take i = []
    · rw [hL] at e4
      have l1 : 1 * 17 ≤ mostBytes := by decide
      rw [hL]
      simp -dsimp -implicitDefEqProofs [hx, ht, hwi, lvS_nil, obS_nil, l1, e6]
      exact .mk (i + 1) (by omega) (by omega) (Sub.mk' (fun b => if b = 0 then 2 else b) (by simp) (by intro b hb; simp at hb <;> omega) (by show injB _ (obS ((l.map frS).take (i + 1))).length = true; rw [e4, obS_cons (by simp)]; rfl) (by simp [hsub, ftSt, e4, obS, flatA_cons]) (by simp [ftSt, e4, lvS, obS, hwi]))
    · generalize hL2 : (l.map frS).take (i + 1) = L2 at *
      generalize (l.map frS).take i = L at *
      have l1 : (L.length + 1) * 17 ≤ mostBytes := by simp only [mostBytes]; omega
      have l2 : ¬ (L.length + 1 ≤ L.length) := by omega
      have l3 : (flatA (strsA L)).take L.length = flatA (strsA L) := List.take_of_length_le (by simp)
      have e5 : L2 ≠ [] := by rw [e4]; simp
      simp -dsimp -implicitDefEqProofs [hx, ht, hwi, l1, l2, l3, e2, e6, lvS_cons hL, obS_cons hL]
      exact .mk (i + 1) (by omega) (by omega) (Sub.mk' (fun b => if b = 0 then 3 else b) (by simp) (by intro b hb; simp at hb <;> omega) (by show injB _ (obS ((l.map frS).take (i + 1))).length = true; rw [hL2, obS_cons e5]; rfl) (by simp [hsub, ftSt, hL2, e4, obS_cons]) (by simp [ftSt, hL2, e4, lvS_cons, obS_cons, hwi]))
  · obtain rfl : i = l.length := by omega
    rw [show (l.map frS).take l.length = l.map frS from List.take_of_length_le (by simp)]
    unfold fracsT
    by_cases hL : l.map frS = []
    · rw [hL] at hj ⊢
      have hj' : sp_joinS [.sl [] false, .str ⟨#[32]⟩] = some (.str (joinT [] oneB)) := hj
      simp -dsimp -implicitDefEqProofs [lvS_nil, obS_nil, hj']
    · generalize l.map frS = L at *
      have hj' : sp_joinS [.sl (strsA L) false, .str ⟨#[32]⟩] = some (.str (joinT L oneB)) := hj
      simp -dsimp -implicitDefEqProofs [lvS_cons hL, obS_cons hL, hj']
end Go.Proofs.YtlglgcmpeabdnaaGreatDoorAi
end

section
/- Contracts: texts of matrices of the program. -/
namespace Go.Proofs.YtlglgcmpeabdnaaGreatDoorAi
open Go Go.RowKit
set_option linter.unusedVariables false
set_option linter.unusedSimpArgs false
set_option maxRecDepth 20000

def lineB : ByteArray := ⟨#[10]⟩
def matW (w : ByteArray) (M : List (List Fr)) : ByteArray := M.foldl (fun w r => w ++ (fracsT r ++ lineB)) w
def matX (M : List (List Fr)) : ByteArray := matW noB M
theorem matW_snoc (w : ByteArray) (M : List (List Fr)) (i : Nat) (h : i < M.length) : matW w (M.take (i + 1)) = matW w (M.take i) ++ (fracsT M[i] ++ lineB) := by
  rw [take_snoc M i h]; unfold matW; rw [List.foldl_append]; rfl
theorem matW_size (M : List (List Fr)) (h : ∀ r ∈ M, allOk r = true ∧ r.length ≤ 256) : ∀ w, (matW w M).size ≤ w.size + M.length * 12000 := by
  induction M with
  | nil => intro w; simp [matW]
  | cons r M ih =>
    intro w
    have h1 := ih (fun y hy => h y (List.mem_cons_of_mem _ hy)) (w ++ (fracsT r ++ lineB))
    have hr := h r (List.mem_cons_self ..)
    have h2 := fracsT_size hr.1
    have h3 : lineB.size = 1 := rfl
    show (matW (w ++ (fracsT r ++ lineB)) M).size ≤ _
    simp only [ByteArray.size_append] at h1
    rw [List.length_cons]
    omega
noncomputable def sp_matX : List AV → Option (AV) := pf (ι := (List (List Fr))) (α := AV) (fun M => M.length ≤ 8 ∧ ∀ r ∈ M, allOk r = true ∧ r.length ≤ 256) (fun M => [.sl (rowsA M) false]) (fun M => .str (matX M))
theorem sp_matX_eq (M : List (List Fr)) (h : M.length ≤ 8 ∧ ∀ r ∈ M, allOk r = true ∧ r.length ≤ 256) : sp_matX [.sl (rowsA M) false] = some (.str (matX M)) := by
  unfold sp_matX
  exact pf_eq (ι := (List (List Fr))) (α := AV) M h (by rintro M' _ e; simp_all [Int.natCast_inj])
theorem q_impl_matrixText : QP PP 52 sp_matX := by
  refine QP_pf (fun M h => ?_) fun M h => ?_
  · exact ⟨by first | rfl | simp, by first | rfl | simp⟩
  replace h : M.length ≤ 8 ∧ ∀ r ∈ M, allOk r = true ∧ r.length ≤ 256 := h
  refine P_code (Quiet.q1 q_impl_fractionsText Quiet.nil) hmix k_impl_matrixText rfl ?_ ?_
  · first | rfl | simp
  show wpc 0 PP _ c_impl_matrixText (initSt [.sl (rowsA M) false] .nil) (endP r_impl_matrixText (.str (matX M)))
  obtain ⟨hl, hr⟩ := h
  simp -dsimp -implicitDefEqProofs [c_impl_matrixText, r_impl_matrixText]
  refine wpLoop_st (fun (i : Nat) => ⟨tl [(3, .str (matW noB (M.take i))), (6, .sl (rowsA M) false), (7, .int .i64 M.length), (8, .int .i64 i)], ⟨[]⟩⟩) (fun i => i ≤ M.length) (fun i => M.length - i) 0 (by omega) (Sub.keep (by simp) (by simp [hsub]) (by simp [matW, noB])) ?_
  intro i hi
  simp -dsimp -implicitDefEqProofs
  refine brW_of (fun h => ?_) (fun h => ?_) <;> simp only [decide_eq_true_eq, decide_eq_false_iff_not] at h
  · have hx : i < M.length := by omega
    have hwi := wrapNat (i := i) (by omega)
    have hri := hr M[i] (List.getElem_mem hx)
    have ht := sp_fracsText_eq M[i] hri
    have hsn := matW_snoc noB M i hx
    have s1 := fracsT_size hri.1
    have s2 := matW_size (M.take i) (fun r hr' => hr r (List.mem_of_mem_take hr')) noB
    have s3 : (M.take i).length ≤ 8 := by rw [List.length_take]; omega
    have s4 : noB.size = 0 := rfl
    have z1 : (fracsT M[i]).size + 1 ≤ 9223372036854775807 := by omega
    have z2 : (matW noB (M.take i)).size + ((fracsT M[i]).size + 1) ≤ 9223372036854775807 := by omega
    simp -dsimp -implicitDefEqProofs [hx, hwi, ht, z1, z2]
    exact .mk (i + 1) (by omega) (by omega) (Sub.keep (by simp) (by simp [hsub]) (by simp [hsn, lineB, hwi]))
  · obtain rfl : i = M.length := by omega
    simp -dsimp -implicitDefEqProofs [matX]
end Go.Proofs.YtlglgcmpeabdnaaGreatDoorAi
end

section
/- Contracts: valid matrices. -/
namespace Go.Proofs.YtlglgcmpeabdnaaGreatDoorAi
open Go Go.RowKit
set_option linter.unusedVariables false
set_option linter.unusedSimpArgs false
set_option maxRecDepth 20000

def sqP (M : List (List Fr)) : Prop := ∀ i (h : i < M.length), M[i].length = M.length
def symAt (M : List (List Fr)) (hs : sqP M) (i j : Nat) : Prop := ∀ (hi : i < M.length) (hj : j < M.length), (M[i]'hi)[j]'(by rw [hs i hi]; exact hj) = (M[j]'hj)[i]'(by rw [hs j hj]; exact hi)
def MatP (M : List (List Fr)) : Prop := M.length ≤ 8 ∧ (∀ r ∈ M, allOk r = true) ∧ ∃ hs : sqP M, ∀ i j, symAt M hs i j
open Classical in
noncomputable def matB (M : List (List Fr)) : Bool := decide (MatP M)
theorem matB_true {M : List (List Fr)} (h : MatP M) : matB M = true := by unfold matB; simp [h]
theorem matB_false {M : List (List Fr)} (h : ¬ MatP M) : matB M = false := by unfold matB; simp [h]
theorem matB_P {M : List (List Fr)} (h : matB M = true) : MatP M := by unfold matB at h; simpa using h
def rowBad (M : List (List Fr)) (r : List Fr) : Bool := !(decide (r.length = M.length)) || !(decide (r.length ≤ 256) && allOk r)
noncomputable def sp_rowBad : List (Option (List AV)) → List AV → Option (AV × List (Option (List AV))) := pv (pf (ι := (List (List Fr)) × (List Fr)) (α := AV × List (Option (List AV))) (fun ⟨M, r⟩ => r.length ≤ maxLen ∧ M.length ≤ 8) (fun i => .agg (((fun ⟨M, r⟩ => [some [.sl (rowsA M) false]] : (List (List Fr)) × (List Fr) → List (Option (List AV))) i).map enO) :: (fun ⟨M, r⟩ => [.sl (frsA r) false, .ptr 0 0] : (List (List Fr)) × (List Fr) → List AV) i) (fun ⟨M, r⟩ => (.bool (rowBad M r), [some [.sl (rowsA M) false]])))
theorem sp_rowBad_eq (M : List (List Fr)) (r : List Fr) (h : r.length ≤ maxLen ∧ M.length ≤ 8) : sp_rowBad [some [.sl (rowsA M) false]] [.sl (frsA r) false, .ptr 0 0] = some (.bool (rowBad M r), [some [.sl (rowsA M) false]]) := by
  unfold sp_rowBad pv
  exact pf_eq (ι := (List (List Fr)) × (List Fr)) (α := AV × List (Option (List AV))) (M, r) h (by rintro ⟨M', r'⟩ _ e; simp_all [enO, Int.natCast_inj])
theorem v_impl_ValidMatrix_1 : QV PP 117 sp_rowBad := by
  refine QV_pf fun i h => ?_
  obtain ⟨M, r⟩ := i
  replace h : r.length ≤ maxLen ∧ M.length ≤ 8 := h
  refine H_code (Quiet.q1 q_impl_validList Quiet.nil) hmix k_impl_ValidMatrix_1 rfl (fun b => b) (by simp [AHeap.n]) (fun _ _ => rfl) (by rfl) (by first | rfl | simp) ?_
  show wpc _ PP _ c_impl_ValidMatrix_1 (initSt [.sl (frsA r) false, .ptr 0 0] ⟨[some [.sl (rowsA M) false]]⟩) (endH (fun b => b) r_impl_ValidMatrix_1 (.bool (rowBad M r)) [some [.sl (rowsA M) false]])
  have hv := sp_validL_eq r h.1
  unfold rowBad
  by_cases hl : r.length = M.length
  · have hl' : ((r.length : Int) != (M.length : Int)) = false := by simp [hl]
    cases hd : decide (r.length ≤ 256) <;> cases ha : allOk r <;> rw [hd, ha] at hv <;> simp -dsimp -implicitDefEqProofs [c_impl_ValidMatrix_1, r_impl_ValidMatrix_1, hv, hl, hl', hsub]
  · have hl' : ((r.length : Int) != (M.length : Int)) = true := by simp; omega
    simp -dsimp -implicitDefEqProofs [c_impl_ValidMatrix_1, r_impl_ValidMatrix_1, hl, hl', hsub]
theorem e_anyM_bad : QE PP 116 (spAnyM 117 (spV sp_rowBad)) := QE_anyM v_impl_ValidMatrix_1.toE
theorem any_rowBad {M : List (List Fr)} (h8 : M.length ≤ 8) (h : M.any (rowBad M) = false) : (∀ r ∈ M, allOk r = true) ∧ sqP M := by
  have h1 : ∀ r ∈ M, rowBad M r = false := fun r hr => by
    have := List.any_eq_false.1 h r hr
    simpa using this
  refine ⟨fun r hr => ?_, fun i hi => ?_⟩
  · have := h1 r hr
    unfold rowBad at this
    simp only [Bool.or_eq_false_iff, Bool.not_eq_false', Bool.and_eq_true] at this
    exact this.2.2
  · have := h1 M[i] (List.getElem_mem hi)
    unfold rowBad at this
    simp only [Bool.or_eq_false_iff, Bool.not_eq_false', decide_eq_true_eq] at this
    exact this.1
theorem any_rowBad' {M : List (List Fr)} (h : M.any (rowBad M) = true) : ¬ MatP M := by
  rintro ⟨h8, hok, hs, _⟩
  obtain ⟨r, hr, hb⟩ := List.any_eq_true.1 h
  obtain ⟨i, hi, rfl⟩ := List.getElem_of_mem hr
  have h1 := hok _ hr
  have h2 := hs i hi
  unfold rowBad at hb
  rw [h1] at hb
  simp only [h2, decide_true, Bool.not_true, Bool.false_or, Bool.and_true, Bool.not_eq_true', decide_eq_false_iff_not] at hb
  omega
noncomputable def sp_matOk : List AV → Option (AV) := pf (ι := (List (List Fr))) (α := AV) (fun M => M.length ≤ maxLen ∧ ∀ r ∈ M, r.length ≤ maxLen) (fun M => [.sl (rowsA M) false]) (fun M => .bool (matB M))
theorem sp_matOk_eq (M : List (List Fr)) (h : M.length ≤ maxLen ∧ ∀ r ∈ M, r.length ≤ maxLen) : sp_matOk [.sl (rowsA M) false] = some (.bool (matB M)) := by
  unfold sp_matOk
  exact pf_eq (ι := (List (List Fr))) (α := AV) M h (by rintro M' _ e; simp_all [Int.natCast_inj])
theorem q_impl_ValidMatrix : QP PP 65 sp_matOk := by
  refine QP_pf (fun M h => ?_) fun M h => ?_
  · exact ⟨by first | rfl | simp, by first | rfl | simp⟩
  replace h : M.length ≤ maxLen ∧ ∀ r ∈ M, r.length ≤ maxLen := h
  refine P_code (Quiet.e1 e_anyM_bad Quiet.nil) hmix k_impl_ValidMatrix rfl ?_ ?_
  · first | rfl | simp
  show wpc 0 PP _ c_impl_ValidMatrix (initSt [.sl (rowsA M) false] .nil) (endP r_impl_ValidMatrix (.bool (matB M)))
  obtain ⟨hl, hr⟩ := h
  simp only [maxLen] at hl
  by_cases h8 : M.length ≤ 8
  · have h8' : ¬ (8 : Int) < M.length := by omega
    have hany := spAnyM_eq (g := 117) (sp := spV sp_rowBad) (rowBad M) (l := M) (caps := [.ptr 0 0]) (A := ⟨[some [.sl (rowsA M) false]]⟩) (by simp only [maxLen]; omega) rfl (fun x hx => by
      have := sp_rowBad_eq M x ⟨hr x hx, h8⟩
      simp [this])
    cases hb : M.any (rowBad M) with
    | true =>
      rw [hb] at hany
      have hm := matB_false (any_rowBad' hb)
      simp -dsimp -implicitDefEqProofs [c_impl_ValidMatrix, r_impl_ValidMatrix, h8', hany, hm]
    | false =>
      rw [hb] at hany
      obtain ⟨hok, hsq⟩ := any_rowBad h8 hb
      simp -dsimp -implicitDefEqProofs [c_impl_ValidMatrix, r_impl_ValidMatrix, h8', hany]
      refine wpLoop_st (fun (i : Nat) => ⟨tl [(1, .ptr 0 0), (15, .sl (rowsA M) false), (16, .int .i64 M.length), (17, .int .i64 i)], ⟨[some [.sl (rowsA M) false]]⟩⟩) (fun i => i ≤ M.length ∧ ∀ i' j, i' < i → symAt M hsq i' j) (fun i => M.length - i) 0 ⟨by omega, fun i' j h => by omega⟩ (Sub.keep (by simp) (by simp [hsub]) (by simp)) ?_
      rintro i ⟨hi, hsy⟩
      simp -dsimp -implicitDefEqProofs
      refine brW_of (fun h => ?_) (fun h => ?_) <;> simp only [decide_eq_true_eq, decide_eq_false_iff_not] at h
      · have hx : i < M.length := by omega
        have hwi := wrapNat (i := i) (by omega)
        have hri := hsq i hx
        simp -dsimp -implicitDefEqProofs [hx]
        refine wpLoop_st (fun (j : Nat) => ⟨tl [(1, .ptr 0 0), (3, .int .i64 i), (15, .sl (rowsA M) false), (16, .int .i64 M.length), (17, .int .i64 i), (22, .sl (frsA M[i]) false), (23, .int .i64 M.length), (24, .int .i64 j)], ⟨[some [.sl (rowsA M) false]]⟩⟩) (fun j => j ≤ M.length ∧ ∀ j', j' < j → symAt M hsq i j') (fun j => M.length - j) 0 ⟨by omega, fun j' h => by omega⟩ (Sub.keep (by simp) (by simp [hsub]) (by simp [hri])) ?_
        rintro j ⟨hj, hsj⟩
        simp -dsimp -implicitDefEqProofs
        refine brW_of (fun h => ?_) (fun h => ?_) <;> simp only [decide_eq_true_eq, decide_eq_false_iff_not] at h
        · have hy : j < M.length := by omega
          have hwj := wrapNat (i := j) (by omega)
          have hrj := hsq j hy
          have k1 : j < M[i].length := by omega
          have k2 : i < M[j].length := by omega
          by_cases hc : M[j][i] = M[i][j]
          · simp -dsimp -implicitDefEqProofs [hx, hy, hwj, hrj, hri, k1, k2, hc]
            exact .mk (j + 1) ⟨by omega, fun j' h' => by
              by_cases e : j' = j
              · subst e; intro _ _; exact hc.symm
              · exact hsj j' (by omega)⟩ (by omega) (Sub.keep (by simp) (by simp [hsub]) (by simp [hwj]))
          · have hm := matB_false (M := M) (by
              rintro ⟨_, _, hs, h2⟩
              exact hc (h2 i j hx hy).symm)
            have hc' : (M[j][i].p == M[i][j].p && M[j][i].q == M[i][j].q) = false := by
              cases e : (M[j][i].p == M[i][j].p && M[j][i].q == M[i][j].q) with
              | false => rfl
              | true =>
                exfalso; apply hc
                simp only [Bool.and_eq_true, beq_iff_eq] at e
                generalize M[j][i] = a at e ⊢
                generalize M[i][j] = b at e ⊢
                obtain ⟨a1, a2⟩ := a; obtain ⟨b1, b2⟩ := b
                simp only at e
                rw [e.1, e.2]
            simp -dsimp -implicitDefEqProofs [hx, hy, hwj, hrj, hri, k1, k2, hc', hm]
        · have : j = M.length := by omega
          subst this
          simp -dsimp -implicitDefEqProofs [hwi]
          exact .mk (i + 1) ⟨by omega, fun i' j' h' => by
            by_cases e : i' = i
            · subst e; intro hi' hj'; exact hsj j' hj' hi' hj'
            · exact hsy i' j' (by omega)⟩ (by omega) (Sub.keep (by simp) (by simp [hsub]) (by simp [hwi]))
      · have : i = M.length := by omega
        subst this
        have hm := matB_true (M := M) ⟨h8, hok, hsq, fun i' j' hi' hj' => hsy i' j' hi' hi' hj'⟩
        simp -dsimp -implicitDefEqProofs [hm]
  · have h8' : (8 : Int) < M.length := by omega
    have hm := matB_false (M := M) (fun h => h8 h.1)
    simp -dsimp -implicitDefEqProofs [c_impl_ValidMatrix, r_impl_ValidMatrix, h8', hm]
end Go.Proofs.YtlglgcmpeabdnaaGreatDoorAi
end

section
/- Contracts: valid matrices of the reference, texts of matrices. -/
namespace Go.Proofs.YtlglgcmpeabdnaaGreatDoorAi
open Go Go.RowKit
set_option linter.unusedVariables false
set_option linter.unusedSimpArgs false
set_option maxRecDepth 20000

def okAt (M : List (List Fr)) (hs : sqP M) (i j : Nat) : Prop := ∀ (hi : i < M.length) (hj : j < M.length), frOk ((M[i]'hi)[j]'(by rw [hs i hi]; exact hj)).p ((M[i]'hi)[j]'(by rw [hs i hi]; exact hj)).q = true
theorem fr_ne {a b : Fr} (h : a ≠ b) : (a.p == b.p && a.q == b.q) = false := by
  cases e : (a.p == b.p && a.q == b.q) with
  | false => rfl
  | true =>
    exfalso; apply h
    simp only [Bool.and_eq_true, beq_iff_eq] at e
    obtain ⟨a1, a2⟩ := a; obtain ⟨b1, b2⟩ := b
    simp only at e
    rw [e.1, e.2]
theorem matP_of {M : List (List Fr)} (h8 : M.length ≤ 8) (hsq : sqP M) (h : ∀ i' j, i' < M.length → okAt M hsq i' j ∧ symAt M hsq i' j) : MatP M := by
  refine ⟨h8, fun r hr => ?_, hsq, fun i j hi hj => (h i j hi).2 hi hj⟩
  obtain ⟨i, hi, rfl⟩ := List.getElem_of_mem hr
  unfold allOk
  refine List.all_eq_true.2 fun x hx => ?_
  obtain ⟨j, hj, rfl⟩ := List.getElem_of_mem hx
  exact (h i j hi).1 hi (by rw [← hsq i hi]; exact hj)
theorem q_spec_l02Matrix : QP PP 63 sp_matOk := by
  refine QP_pf (fun M h => ?_) fun M h => ?_
  · exact ⟨by first | rfl | simp, by first | rfl | simp⟩
  replace h : M.length ≤ maxLen ∧ ∀ r ∈ M, r.length ≤ maxLen := h
  refine P_code (Quiet.q1 q_spec_l02Ok Quiet.nil) hmix k_spec_l02Matrix rfl ?_ ?_
  · first | rfl | simp
  show wpc 0 PP _ c_spec_l02Matrix (initSt [.sl (rowsA M) false] .nil) (endP r_spec_l02Matrix (.bool (matB M)))
  obtain ⟨hl, hr⟩ := h
  simp only [maxLen] at hl
  by_cases h8 : M.length ≤ 8
  · have h8' : ¬ (8 : Int) < M.length := by omega
    simp -dsimp -implicitDefEqProofs [c_spec_l02Matrix, r_spec_l02Matrix, h8']
    refine wpLoop_st (fun (i : Nat) => ⟨tl [(0, .sl (rowsA M) false), (3, .int .i64 i)], ⟨[]⟩⟩) (fun i => i ≤ M.length ∧ ∀ i' (h : i' < M.length), i' < i → M[i'].length = M.length) (fun i => M.length - i) 0 ⟨by omega, fun i' _ h => by omega⟩ (Sub.keep (by simp) (by simp [hsub]) (by simp)) ?_
    rintro i ⟨hi, hq⟩
    simp -dsimp -implicitDefEqProofs
    refine brW_of (fun h => ?_) (fun h => ?_) <;> simp only [decide_eq_true_eq, decide_eq_false_iff_not] at h
    · have hx : i < M.length := by omega
      have hwi := wrapNat (i := i) (by omega)
      by_cases he : M[i].length = M.length
      · have he' : ((M[i].length : Int) != (M.length : Int)) = false := by simp [he]
        simp -dsimp -implicitDefEqProofs [hx, hwi, he']
        exact .mk (i + 1) ⟨by omega, fun i' hi' h' => by
          by_cases e : i' = i
          · subst e; exact he
          · exact hq i' hi' (by omega)⟩ (by omega) (Sub.keep (by simp) (by simp [hsub]) (by simp [hwi]))
      · have he' : ((M[i].length : Int) != (M.length : Int)) = true := by simp; omega
        have hm := matB_false (M := M) (fun h => he (h.2.2.choose i hx))
        simp -dsimp -implicitDefEqProofs [hx, he', hm]
    · have : i = M.length := by omega
      subst this
      have hsq : sqP M := fun i' hi' => hq i' hi' hi'
      simp -dsimp -implicitDefEqProofs
      refine wpLoop_st (fun (i : Nat) => ⟨tl [(0, .sl (rowsA M) false), (4, .int .i64 i)], ⟨[]⟩⟩) (fun i => i ≤ M.length ∧ ∀ i' j, i' < i → okAt M hsq i' j ∧ symAt M hsq i' j) (fun i => M.length - i) 0 ⟨by omega, fun i' j h => by omega⟩ (Sub.keep (by simp) (by simp [hsub]) (by simp)) ?_
      rintro i ⟨hi, hsy⟩
      simp -dsimp -implicitDefEqProofs
      refine brW_of (fun h => ?_) (fun h => ?_) <;> simp only [decide_eq_true_eq, decide_eq_false_iff_not] at h
      · have hx : i < M.length := by omega
        have hwi := wrapNat (i := i) (by omega)
        have hri := hsq i hx
        simp -dsimp -implicitDefEqProofs [hx]
        refine wpLoop_st (fun (j : Nat) => ⟨tl [(0, .sl (rowsA M) false), (4, .int .i64 i), (5, .int .i64 j)], ⟨[]⟩⟩) (fun j => j ≤ M.length ∧ ∀ j', j' < j → okAt M hsq i j' ∧ symAt M hsq i j') (fun j => M.length - j) 0 ⟨by omega, fun j' h => by omega⟩ (Sub.keep (by simp) (by simp [hsub]) (by simp)) ?_
        rintro j ⟨hj, hsj⟩
        simp -dsimp -implicitDefEqProofs
        refine brW_of (fun h => ?_) (fun h => ?_) <;> simp only [decide_eq_true_eq, decide_eq_false_iff_not] at h
        · have hy : j < M.length := by omega
          have hwj := wrapNat (i := j) (by omega)
          have hrj := hsq j hy
          have k1 : j < M[i].length := by omega
          have k2 : i < M[j].length := by omega
          have hok := sp_frOk_eq M[i][j].p M[i][j].q
          cases hf : frOk M[i][j].p M[i][j].q with
          | false =>
            rw [hf] at hok
            have hm := matB_false (M := M) (by
              rintro ⟨_, h2, _⟩
              have := allOk_get (h2 M[i] (List.getElem_mem hx)) M[i][j] (List.getElem_mem k1)
              rw [hf] at this; cases this)
            simp -dsimp -implicitDefEqProofs [hx, hy, hrj, hri, k1, k2, hok, hf, hm]
          | true =>
            rw [hf] at hok
            by_cases hc : M[i][j] = M[j][i]
            · have hce : frOk M[j][i].p M[j][i].q = true := by rw [← hc]; exact hf
              rw [hc] at hok
              simp -dsimp -implicitDefEqProofs [hx, hy, hwj, hrj, hri, k1, k2, hc, hok, hce]
              exact .mk (j + 1) ⟨by omega, fun j' h' => by
                by_cases e : j' = j
                · subst e; exact ⟨fun _ _ => hf, fun _ _ => hc⟩
                · exact hsj j' (by omega)⟩ (by omega) (Sub.keep (by simp) (by simp [hsub]) (by simp [hwj]))
            · have hm := matB_false (M := M) (by
                rintro ⟨_, _, hs, h2⟩
                exact hc (h2 i j hx hy))
              have hc' := fr_ne hc
              simp -dsimp -implicitDefEqProofs [hx, hy, hwj, hrj, hri, k1, k2, hok, hf, hc', hm]
        · have : j = M.length := by omega
          subst this
          simp -dsimp -implicitDefEqProofs [hwi]
          exact .mk (i + 1) ⟨by omega, fun i' j' h' => by
            by_cases e : i' = i
            · subst e; exact ⟨fun hi' hj' => (hsj j' hj').1 hi' hj', fun hi' hj' => (hsj j' hj').2 hi' hj'⟩
            · exact hsy i' j' (by omega)⟩ (by omega) (Sub.keep (by simp) (by simp [hsub]) (by simp [hwi]))
      · have : i = M.length := by omega
        subst this
        have hm := matB_true (matP_of h8 hsq fun i' j hi' => hsy i' j hi')
        simp -dsimp -implicitDefEqProofs [hm]
  · have h8' : (8 : Int) < M.length := by omega
    have hm := matB_false (M := M) (fun h => h8 h.1)
    simp -dsimp -implicitDefEqProofs [c_spec_l02Matrix, r_spec_l02Matrix, h8', hm]
end Go.Proofs.YtlglgcmpeabdnaaGreatDoorAi
end

section
/- MADE BY PROGRAM (wip/tools/gen.py): the abstract code of functions. -/
namespace Go.Proofs.YtlglgcmpeabdnaaGreatDoorAi
open Go AC AOp Opd
set_option linter.unusedVariables false
set_option maxRecDepth 100000
def c_slices_IndexFunc_Simpl_Flag_impl_Flag : AC := seq (reg [⟨(some 4), mv (c (.int .i64 0)), none⟩]) (seq (seq (reg [⟨(some 6), mv (t 0), none⟩, ⟨(some 7), len (t 6), none⟩, ⟨(some 8), mv (c (.int .i64 0)), none⟩]) (block 0 (loop (seq (reg [⟨(some 9), bin .lss (t 8) (t 7), none⟩]) (seq (cond (t 9) (skip) (exit 0)) (seq (block 1 (seq (reg [⟨(some 10), mv (t 8), none⟩, ⟨(some 5), mv (t 10), none⟩]) (seq (reg [⟨(some 11), mv (t 1), none⟩, ⟨(some 12), mv (t 0), none⟩, ⟨(some 13), mv (t 5), none⟩, ⟨(some 14), iad 3 (t 12) (t 13), none⟩, ⟨(some 15), ld (t 14) 3 true, none⟩, ⟨(some 16), call (t 11) [t 15], none⟩]) (cond (t 16) (seq (reg [⟨(some 17), mv (t 5), none⟩, ⟨(some 4), mv (t 17), none⟩]) (ret)) (skip))))) (reg [⟨(some 18), bin .add (t 8) (c (.int .i64 1)), none⟩, ⟨(some 8), mv (t 18), none⟩]))))))) (seq (reg [⟨(some 4), mv (c (.int .i64 (-1))), none⟩]) (ret)))
def r_slices_IndexFunc_Simpl_Flag_impl_Flag : List ARes := [.tmp 4]
theorem k_slices_IndexFunc_Simpl_Flag_impl_Flag : acLin Go.Proofs.Tryz.prog 210 2 (inQ [] []) [] = some (c_slices_IndexFunc_Simpl_Flag_impl_Flag, r_slices_IndexFunc_Simpl_Flag_impl_Flag) := by kernel_rfl
def c_slices_ContainsFunc_Simpl_Flag_impl_Flag : AC := seq (reg [⟨(some 4), mv (c (.bool false)), none⟩]) (seq (reg [⟨(some 5), mv (t 0), none⟩, ⟨(some 6), mv (t 1), none⟩, ⟨(some 7), calle (c (.fn 210 [])) [t 5, t 6] [], none⟩, ⟨(some 8), bin .geq (t 7) (c (.int .i64 0)), none⟩, ⟨(some 4), mv (t 8), none⟩]) (ret))
def r_slices_ContainsFunc_Simpl_Flag_impl_Flag : List ARes := [.tmp 4]
theorem k_slices_ContainsFunc_Simpl_Flag_impl_Flag : acLin Go.Proofs.Tryz.prog 196 2 (inQ [] [210]) [] = some (c_slices_ContainsFunc_Simpl_Flag_impl_Flag, r_slices_ContainsFunc_Simpl_Flag_impl_Flag) := by kernel_rfl
def c_impl_badFlag : AC := seq (reg [⟨(some 1), box 3 (t 0), none⟩, ⟨(some 2), mv (c (.bool false)), none⟩]) (seq (reg [⟨(some 3), ld (t 1) 3 true, none⟩, ⟨(some 4), callq (c (.fn 152 [])) [t 3], none⟩, ⟨(some 5), un .not (t 4), none⟩, ⟨(some 2), mv (t 5), none⟩]) (ret))
def r_impl_badFlag : List ARes := [.tmp 2]
theorem k_impl_badFlag : acLin Go.Proofs.Tryz.prog 197 1 (inQ [152] []) [] = some (c_impl_badFlag, r_impl_badFlag) := by kernel_rfl
def c_impl_flagsOk : AC := seq (reg [⟨(some 2), mv (c (.int .i64 0)), none⟩]) (seq (seq (reg [⟨(some 3), mv (t 0), none⟩, ⟨(some 4), calle (c (.fn 196 [])) [t 3, c (.fn 197 [])] [], none⟩]) (cond (t 4) (seq (reg [⟨(some 2), mv (c (.int .i64 1)), none⟩]) (ret)) (skip))) (seq (reg [⟨(some 2), mv (c (.int .i64 0)), none⟩]) (ret)))
def r_impl_flagsOk : List ARes := [.tmp 2]
theorem k_impl_flagsOk : acLin Go.Proofs.Tryz.prog 173 1 (inQ [197] [196]) [] = some (c_impl_flagsOk, r_impl_flagsOk) := by kernel_rfl
def c_impl_sameType_1 : AC := seq (reg [⟨(some 2), box 3 (t 0), none⟩, ⟨(some 3), mv (c (.bool false)), none⟩]) (seq (reg [⟨(some 4), ld (t 2) 3 true, none⟩, ⟨(some 5), callq (c (.fn 212 [])) [t 4], none⟩, ⟨(some 6), ld (t 1) 1 false, none⟩, ⟨(some 7), iad 3 (t 6) (c (.int .i64 0)), none⟩, ⟨(some 8), ld (t 7) 3 true, none⟩, ⟨(some 9), callq (c (.fn 212 [])) [t 8], none⟩, ⟨(some 10), eqs true [.i .i64, .i .u32] (t 5) (t 9), none⟩, ⟨(some 3), mv (t 10), none⟩]) (ret))
def r_impl_sameType_1 : List ARes := [.tmp 3]
theorem k_impl_sameType_1 : acLin Go.Proofs.Tryz.prog 211 2 (inQ [212] []) [⟨false, none, [], [], none⟩, ⟨false, some [0, 1, 2, 3, 4, 5, 6, 7], [], [], none⟩] = some (c_impl_sameType_1, r_impl_sameType_1) := by kernel_rfl
def c_impl_sameType : AC := seq (reg [⟨(some 1), box 1 (t 0), none⟩, ⟨(some 2), mv (c (.bool false)), none⟩]) (seq (reg [⟨(some 3), ld (t 1) 1 false, none⟩, ⟨(some 4), mkf 211 [t 1], none⟩, ⟨(some 5), calle (c (.fn 196 [])) [t 3, t 4] [], none⟩, ⟨(some 6), un .not (t 5), none⟩, ⟨(some 2), mv (t 6), none⟩]) (ret))
def r_impl_sameType : List ARes := [.tmp 2]
theorem k_impl_sameType : acLin Go.Proofs.Tryz.prog 198 1 (inQ [] [196]) [] = some (c_impl_sameType, r_impl_sameType) := by kernel_rfl
def c_impl_alikes_1 : AC := seq (reg [⟨(some 2), box 3 (t 0), none⟩, ⟨(some 3), mv (c (.bool false)), none⟩]) (seq (reg [⟨(some 4), fad (t 2) 1, none⟩, ⟨(some 5), fad (t 4) 0, none⟩, ⟨(some 6), ld (t 5) 1 false, none⟩, ⟨(some 7), ld (t 1) 1 false, none⟩, ⟨(some 8), iad 3 (t 7) (c (.int .i64 0)), none⟩, ⟨(some 9), fad (t 8) 1, none⟩, ⟨(some 10), fad (t 9) 0, none⟩, ⟨(some 11), ld (t 10) 1 false, none⟩, ⟨(some 12), bin .neq (t 6) (t 11), none⟩, ⟨(some 3), mv (t 12), none⟩]) (ret))
def r_impl_alikes_1 : List ARes := [.tmp 3]
theorem k_impl_alikes_1 : acLin Go.Proofs.Tryz.prog 199 2 (inQ [] []) [⟨false, none, [], [], none⟩, ⟨false, some [0, 1, 2, 3, 4, 5, 6, 7, 8, 9], [], [], none⟩] = some (c_impl_alikes_1, r_impl_alikes_1) := by kernel_rfl
def c_impl_alikes : AC := seq (reg [⟨(some 1), box 1 (t 0), none⟩, ⟨(some 2), mv (c (.bool false)), none⟩]) (seq (reg [⟨(some 3), ld (t 1) 1 false, none⟩, ⟨(some 4), callq (c (.fn 198 [])) [t 3], none⟩, ⟨(some 5), mv (t 4), none⟩, ⟨(some 6), ld (t 1) 1 false, some (5, true)⟩, ⟨(some 7), mkf 199 [t 1], some (5, true)⟩, ⟨(some 8), calle (c (.fn 196 [])) [t 6, t 7] [], some (5, true)⟩, ⟨(some 9), un .not (t 8), some (5, true)⟩, ⟨(some 10), pick (t 5) (t 9) (c (.bool false)), none⟩, ⟨(some 2), mv (t 10), none⟩]) (ret))
def r_impl_alikes : List ARes := [.tmp 2]
theorem k_impl_alikes : acLin Go.Proofs.Tryz.prog 174 1 (inQ [198] [196]) [] = some (c_impl_alikes, r_impl_alikes) := by kernel_rfl
def c_impl_ValidBlock : AC := seq (reg [⟨(some 1), box 2 (t 0), none⟩, ⟨(some 2), mv (c (.bool false)), none⟩]) (seq (reg [⟨(some 4), fad (t 1) 0, none⟩, ⟨(some 5), ld (t 4) 1 false, none⟩, ⟨(some 6), len (t 5), none⟩, ⟨(some 7), callq (c (.fn 37 [])) [t 6, c (.int .i64 1), c (.int .i64 8)], none⟩, ⟨(some 8), mv (t 7), none⟩, ⟨(some 9), fad (t 1) 0, some (8, true)⟩, ⟨(some 10), ld (t 9) 1 false, some (8, true)⟩, ⟨(some 11), callq (c (.fn 173 [])) [t 10], some (8, true)⟩, ⟨(some 12), bin .eql (t 11) (c (.int .i64 0)), some (8, true)⟩, ⟨(some 13), pick (t 8) (t 12) (c (.bool false)), none⟩, ⟨(some 14), mv (t 13), none⟩, ⟨(some 15), fad (t 1) 0, some (14, true)⟩, ⟨(some 16), ld (t 15) 1 false, some (14, true)⟩, ⟨(some 17), callq (c (.fn 174 [])) [t 16], some (14, true)⟩, ⟨(some 18), pick (t 14) (t 17) (c (.bool false)), none⟩, ⟨(some 3), mv (t 18), none⟩]) (seq (reg [⟨(some 19), mv (t 3), none⟩, ⟨(some 20), mv (t 19), none⟩, ⟨(some 21), fad (t 1) 1, some (20, true)⟩, ⟨(some 22), ld (t 21) 1 false, some (20, true)⟩, ⟨(some 23), callq (c (.fn 65 [])) [t 22], some (20, true)⟩, ⟨(some 24), pick (t 20) (t 23) (c (.bool false)), none⟩, ⟨(some 25), mv (t 24), none⟩, ⟨(some 26), fad (t 1) 1, some (25, true)⟩, ⟨(some 27), ld (t 26) 1 false, some (25, true)⟩, ⟨(some 28), len (t 27), some (25, true)⟩, ⟨(some 29), fad (t 1) 0, some (25, true)⟩, ⟨(some 30), ld (t 29) 1 false, some (25, true)⟩, ⟨(some 31), len (t 30), some (25, true)⟩, ⟨(some 32), bin .eql (t 28) (t 31), some (25, true)⟩, ⟨(some 33), pick (t 25) (t 32) (c (.bool false)), none⟩, ⟨(some 2), mv (t 33), none⟩]) (ret)))
def r_impl_ValidBlock : List ARes := [.tmp 2]
theorem k_impl_ValidBlock : acLin Go.Proofs.Tryz.prog 146 1 (inQ [37, 65, 173, 174] []) [] = some (c_impl_ValidBlock, r_impl_ValidBlock) := by kernel_rfl
def c_impl_badBlock : AC := seq (reg [⟨(some 1), box 2 (t 0), none⟩, ⟨(some 2), mv (c (.bool false)), none⟩]) (seq (reg [⟨(some 3), ld (t 1) 2 true, none⟩, ⟨(some 4), callq (c (.fn 146 [])) [t 3], none⟩, ⟨(some 5), un .not (t 4), none⟩, ⟨(some 2), mv (t 5), none⟩]) (ret))
def r_impl_badBlock : List ARes := [.tmp 2]
theorem k_impl_badBlock : acLin Go.Proofs.Tryz.prog 103 1 (inQ [146] []) [] = some (c_impl_badBlock, r_impl_badBlock) := by kernel_rfl
def c_slices_IndexFunc_Simpl_Block_impl_Block : AC := seq (reg [⟨(some 4), mv (c (.int .i64 0)), none⟩]) (seq (seq (reg [⟨(some 6), mv (t 0), none⟩, ⟨(some 7), len (t 6), none⟩, ⟨(some 8), mv (c (.int .i64 0)), none⟩]) (block 0 (loop (seq (reg [⟨(some 9), bin .lss (t 8) (t 7), none⟩]) (seq (cond (t 9) (skip) (exit 0)) (seq (block 1 (seq (reg [⟨(some 10), mv (t 8), none⟩, ⟨(some 5), mv (t 10), none⟩]) (seq (reg [⟨(some 11), mv (t 1), none⟩, ⟨(some 12), mv (t 0), none⟩, ⟨(some 13), mv (t 5), none⟩, ⟨(some 14), iad 2 (t 12) (t 13), none⟩, ⟨(some 15), ld (t 14) 2 true, none⟩, ⟨(some 16), call (t 11) [t 15], none⟩]) (cond (t 16) (seq (reg [⟨(some 17), mv (t 5), none⟩, ⟨(some 4), mv (t 17), none⟩]) (ret)) (skip))))) (reg [⟨(some 18), bin .add (t 8) (c (.int .i64 1)), none⟩, ⟨(some 8), mv (t 18), none⟩]))))))) (seq (reg [⟨(some 4), mv (c (.int .i64 (-1))), none⟩]) (ret)))
def r_slices_IndexFunc_Simpl_Block_impl_Block : List ARes := [.tmp 4]
theorem k_slices_IndexFunc_Simpl_Block_impl_Block : acLin Go.Proofs.Tryz.prog 145 2 (inQ [] []) [] = some (c_slices_IndexFunc_Simpl_Block_impl_Block, r_slices_IndexFunc_Simpl_Block_impl_Block) := by kernel_rfl
def c_slices_ContainsFunc_Simpl_Block_impl_Block : AC := seq (reg [⟨(some 4), mv (c (.bool false)), none⟩]) (seq (reg [⟨(some 5), mv (t 0), none⟩, ⟨(some 6), mv (t 1), none⟩, ⟨(some 7), calle (c (.fn 145 [])) [t 5, t 6] [], none⟩, ⟨(some 8), bin .geq (t 7) (c (.int .i64 0)), none⟩, ⟨(some 4), mv (t 8), none⟩]) (ret))
def r_slices_ContainsFunc_Simpl_Block_impl_Block : List ARes := [.tmp 4]
theorem k_slices_ContainsFunc_Simpl_Block_impl_Block : acLin Go.Proofs.Tryz.prog 102 2 (inQ [] [145]) [] = some (c_slices_ContainsFunc_Simpl_Block_impl_Block, r_slices_ContainsFunc_Simpl_Block_impl_Block) := by kernel_rfl
def c_spec_l04Family : AC := seq (reg [⟨(some 2), mv (c (.int .i64 0)), none⟩]) (seq (seq (reg [⟨(some 3), mv (c (.int .i64 0)), none⟩]) (block 0 (loop (seq (seq (reg [⟨(some 5), mv (t 3), none⟩, ⟨(some 6), mv (t 0), none⟩, ⟨(some 7), len (t 6), none⟩, ⟨(some 8), bin .lss (t 5) (t 7), none⟩]) (cond (t 8) (skip) (exit 0))) (seq (block 1 (seq (reg [⟨(some 11), mv (t 0), none⟩, ⟨(some 12), mv (t 3), none⟩, ⟨(some 13), iad 3 (t 11) (t 12), none⟩, ⟨(some 14), ld (t 13) 3 true, none⟩, ⟨(some 15), callq (c (.fn 107 [])) [t 14], none⟩, ⟨(some 16), un .not (t 15), none⟩]) (cond (t 16) (seq (reg [⟨(some 2), mv (c (.int .i64 1)), none⟩]) (ret)) (skip)))) (reg [⟨(some 9), mv (t 3), none⟩, ⟨(some 10), bin .add (t 9) (c (.int .i64 1)), none⟩, ⟨(some 3), mv (t 10), none⟩])))))) (seq (seq (reg [⟨(some 17), mv (t 0), none⟩, ⟨(some 18), len (t 17), none⟩, ⟨(some 19), bin .gtr (t 18) (c (.int .i64 8)), none⟩]) (cond (t 19) (seq (reg [⟨(some 2), mv (c (.int .i64 3)), none⟩]) (ret)) (skip))) (seq (seq (reg [⟨(some 20), mv (t 0), none⟩, ⟨(some 21), len (t 20), none⟩, ⟨(some 22), bin .eql (t 21) (c (.int .i64 0)), none⟩]) (cond (t 22) (seq (reg [⟨(some 2), mv (c (.int .i64 4)), none⟩]) (ret)) (skip))) (seq (seq (reg [⟨(some 4), mv (c (.int .i64 1)), none⟩]) (block 2 (loop (seq (seq (reg [⟨(some 23), mv (t 4), none⟩, ⟨(some 24), mv (t 0), none⟩, ⟨(some 25), len (t 24), none⟩, ⟨(some 26), bin .lss (t 23) (t 25), none⟩]) (cond (t 26) (skip) (exit 2))) (seq (block 3 (seq (reg [⟨(some 29), mv (t 0), none⟩, ⟨(some 30), mv (t 4), none⟩, ⟨(some 31), iad 3 (t 29) (t 30), none⟩, ⟨(some 32), ld (t 31) 3 true, none⟩, ⟨(some 33), callq (c (.fn 193 [])) [t 32], none⟩, ⟨(some 34), mv (t 0), none⟩, ⟨(some 35), iad 3 (t 34) (c (.int .i64 0)), none⟩, ⟨(some 36), ld (t 35) 3 true, none⟩, ⟨(some 37), callq (c (.fn 193 [])) [t 36], none⟩, ⟨(some 38), eqs true [.i .i64, .i .u32] (t 33) (t 37), none⟩, ⟨(some 39), mv (t 38), none⟩, ⟨(some 40), mv (t 0), some (39, false)⟩, ⟨(some 41), mv (t 4), some (39, false)⟩, ⟨(some 42), iad 3 (t 40) (t 41), some (39, false)⟩, ⟨(some 43), fad (t 42) 1, some (39, false)⟩, ⟨(some 44), fad (t 43) 0, some (39, false)⟩, ⟨(some 45), ld (t 44) 1 false, some (39, false)⟩, ⟨(some 46), mv (t 0), some (39, false)⟩, ⟨(some 47), iad 3 (t 46) (c (.int .i64 0)), some (39, false)⟩, ⟨(some 48), fad (t 47) 1, some (39, false)⟩, ⟨(some 49), fad (t 48) 0, some (39, false)⟩, ⟨(some 50), ld (t 49) 1 false, some (39, false)⟩, ⟨(some 51), bin .neq (t 45) (t 50), some (39, false)⟩, ⟨(some 52), pick (t 39) (c (.bool true)) (t 51), none⟩]) (cond (t 52) (seq (reg [⟨(some 2), mv (c (.int .i64 4)), none⟩]) (ret)) (skip)))) (reg [⟨(some 27), mv (t 4), none⟩, ⟨(some 28), bin .add (t 27) (c (.int .i64 1)), none⟩, ⟨(some 4), mv (t 28), none⟩])))))) (seq (reg [⟨(some 2), mv (c (.int .i64 0)), none⟩]) (ret))))))
def r_spec_l04Family : List ARes := [.tmp 2]
theorem k_spec_l04Family : acLin Go.Proofs.Tryz.prog 170 1 (inQ [107, 193] []) [⟨false, none, [], [], none⟩, ⟨false, none, [], [], none⟩, ⟨false, none, [], [], none⟩, ⟨false, none, [], [], none⟩, ⟨false, none, [], [], none⟩, ⟨false, none, [], [], none⟩, ⟨false, none, [], [], none⟩, ⟨false, none, [], [], none⟩, ⟨false, none, [], [], none⟩, ⟨false, none, [], [], none⟩, ⟨false, none, [], [], none⟩, ⟨false, none, [], [], none⟩, ⟨false, none, [], [], none⟩, ⟨false, none, [], [], none⟩, ⟨false, none, [], [], none⟩, ⟨false, none, [], [], none⟩, ⟨false, none, [], [], none⟩, ⟨false, some [0, 1, 2, 3, 4, 5, 6, 7, 8, 9, 10, 11, 12, 13, 14, 15, 16, 17, 18, 19, 20, 21, 22, 23], [], [], none⟩] = some (c_spec_l04Family, r_spec_l04Family) := by kernel_rfl
end Go.Proofs.YtlglgcmpeabdnaaGreatDoorAi
end

section
/- Contracts: lists of flags: valid, alike; valid blocks. -/
namespace Go.Proofs.YtlglgcmpeabdnaaGreatDoorAi
open Go Go.RowKit
set_option linter.unusedVariables false
set_option linter.unusedSimpArgs false
set_option maxRecDepth 20000

/-! ### searching in lists of flags -/
theorem T_indexL {g : FuncId} {caps : List AV} {os : List (Option (List AV))} (f : Fl → Bool) (l : List Fl) (hl : l.length ≤ maxLen) (ho : ClosedH os) (hc : ltL os.length caps = true)
    (hf : ∀ x ∈ l, T PP g ([.agg [.int .i64 x.l, .int .i64 x.g.n, .int .u32 x.g.e]] ++ caps) ⟨os⟩ fun r A' => r = .bool (f x) ∧ A' = ⟨os⟩) :
    T PP 210 [.sl (flsA l) false, .fn g caps] ⟨os⟩ fun r A' => r = .int .i64 (idxF f l 0) ∧ A' = ⟨os⟩ := by
  refine H_code Quiet.nil hmix k_slices_IndexFunc_Simpl_Flag_impl_Flag rfl (fun b => b) (Nat.le_refl _) (fun _ _ => rfl) (injB_id _) (by rfl) ?_
  show wpc os.length PP _ c_slices_IndexFunc_Simpl_Flag_impl_Flag (initSt [.sl (flsA l) false, .fn g caps] ⟨os⟩) _
  simp only [maxLen] at hl
  simp -dsimp -implicitDefEqProofs [c_slices_IndexFunc_Simpl_Flag_impl_Flag, r_slices_IndexFunc_Simpl_Flag_impl_Flag]
  refine wpLoop_st (fun (i : Nat) => ⟨tl [(0, .sl (flsA l) false), (1, .fn g caps), (7, .int .i64 l.length), (8, .int .i64 i)], ⟨os⟩⟩) (fun i => i ≤ l.length ∧ idxF f (l.drop i) i = idxF f l 0) (fun i => l.length - i) 0 ⟨by omega, rfl⟩ (Sub.pre0 ho (by simp [hc])) ?_
  rintro i ⟨hi, hx⟩
  simp -dsimp -implicitDefEqProofs
  refine brW_of (fun h => ?_) (fun h => ?_) <;> simp only [decide_eq_true_eq, decide_eq_false_iff_not] at h
  · have hi' : i < l.length := by omega
    have hw := wrapNat (i := i) (by omega)
    simp -dsimp -implicitDefEqProofs [hi', hw]
    refine (hf l[i] (List.getElem_mem hi')).mono ?_
    rintro r A' ⟨rfl, rfl⟩
    rw [drop_cons hi', idxF] at hx
    cases hv : f l[i] with
    | false =>
      simp only [hv, Bool.false_eq_true, if_false] at hx
      simp -dsimp -implicitDefEqProofs [hw]
      exact .mk (i + 1) ⟨by omega, hx⟩ (by omega) (Sub.pre0 ho (by simp [hw, hc]))
    | true =>
      simp only [hv, if_true] at hx
      simp -dsimp -implicitDefEqProofs [← hx, hsub_all ho]
  · have : i = l.length := by omega
    subst this
    simp [idxF] at hx
    simp -dsimp -implicitDefEqProofs [← hx, hsub_all ho]
noncomputable def yesL (sp : List AV → AHeap → Option (AV × AHeap)) (caps : List AV) (A : AHeap) (x : Fl) : Bool := yesOf sp ([.agg [.int .i64 x.l, .int .i64 x.g.n, .int .u32 x.g.e]] ++ caps) A
open Classical in
noncomputable def spIdxL (g : FuncId) (sp : List AV → AHeap → Option (AV × AHeap)) : List AV → AHeap → Option (AV × AHeap)
  | [.sl xs false, .fn g' caps], A => if h : g' = g ∧ ∃ l : List Fl, xs = flsA l ∧ l.length ≤ maxLen ∧ ∀ x ∈ l, sp ([.agg [.int .i64 x.l, .int .i64 x.g.n, .int .u32 x.g.e]] ++ caps) A = some (.bool (yesL sp caps A x), A)
      then some (.int .i64 (idxF (yesL sp caps A) h.2.choose 0), A) else none
  | _, _ => none
theorem spIdxL_eq {g : FuncId} {sp : List AV → AHeap → Option (AV × AHeap)} (f : Fl → Bool) {l : List Fl} {caps : List AV} {A : AHeap} (hl : l.length ≤ maxLen) (h : ∀ x ∈ l, sp ([.agg [.int .i64 x.l, .int .i64 x.g.n, .int .u32 x.g.e]] ++ caps) A = some (.bool (f x), A)) :
    spIdxL g sp [.sl (flsA l) false, .fn g caps] A = some (.int .i64 (idxF f l 0), A) := by
  have hy : ∀ x ∈ l, yesL sp caps A x = f x := by
    intro x hx
    unfold yesL yesOf
    rw [h x hx]
  have hc : g = g ∧ ∃ k : List Fl, flsA l = flsA k ∧ k.length ≤ maxLen ∧ ∀ x ∈ k, sp ([.agg [.int .i64 x.l, .int .i64 x.g.n, .int .u32 x.g.e]] ++ caps) A = some (.bool (yesL sp caps A x), A) := ⟨rfl, l, rfl, hl, fun x hx => by rw [hy x hx]; exact h x hx⟩
  unfold spIdxL
  dsimp only
  rw [dif_pos hc]
  have e : hc.2.choose = l := (flsA_inj.1 hc.2.choose_spec.1).symm
  rw [e]
  have : ∀ (l : List Fl) (i : Nat), (∀ x ∈ l, yesL sp caps A x = f x) → idxF (yesL sp caps A) l i = idxF f l i := by
    intro l
    induction l with
    | nil => intro _ _; rfl
    | cons x l ih => intro i h; rw [idxF, idxF, h x (List.mem_cons_self ..), ih _ fun y hy => h y (List.mem_cons_of_mem _ hy)]
  rw [this l 0 hy]
theorem QE_idxL {g : FuncId} {sp : List AV → AHeap → Option (AV × AHeap)} (hg : QE PP g sp) : QE PP 210 (spIdxL g sp) := by
  intro args A r A1 e
  unfold spIdxL at e
  split at e
  · rename_i xs g' caps
    split at e
    · rename_i hc
      obtain ⟨rfl, hx⟩ := hc
      injection e with e
      injection e with e1 e2
      subst e1; subst e2
      obtain ⟨h1, h2, h3⟩ := hx.choose_spec
      generalize hx.choose = l at h1 h2 h3
      subst h1
      refine T.of_closed (T_indexL (g := g') (caps := []) (os := []) (fun _ => true) [] (by simp) ClosedH.nil rfl (fun x hx => (by cases hx))).1 fun ho hl => ?_
      exact T_indexL (os := A.l) _ l h2 ho (by simpa [ltL, AV.lt] using hl) fun x hx => hg _ _ _ _ (h3 x hx)
    · cases e
  · cases e
theorem T_anyL {g : FuncId} {sp : List AV → AHeap → Option (AV × AHeap)} (hg : QE PP g sp) {caps : List AV} {os : List (Option (List AV))} (f : Fl → Bool) (l : List Fl) (hl : l.length ≤ maxLen) (ho : ClosedH os) (hc : ltL os.length caps = true) (hcl : looseL caps = caps)
    (hf : ∀ x ∈ l, sp ([.agg [.int .i64 x.l, .int .i64 x.g.n, .int .u32 x.g.e]] ++ caps) ⟨os⟩ = some (.bool (f x), ⟨os⟩)) :
    T PP 196 [.sl (flsA l) false, .fn g caps] ⟨os⟩ fun r A' => r = .bool (l.any f) ∧ A' = ⟨os⟩ := by
  refine H_code (Quiet.e1 (QE_idxL hg) Quiet.nil) hmix k_slices_ContainsFunc_Simpl_Flag_impl_Flag rfl (fun b => b) (Nat.le_refl _) (fun _ _ => rfl) (injB_id _) (by rfl) ?_
  show wpc os.length PP _ c_slices_ContainsFunc_Simpl_Flag_impl_Flag (initSt [.sl (flsA l) false, .fn g caps] ⟨os⟩) _
  simp -dsimp -implicitDefEqProofs [c_slices_ContainsFunc_Simpl_Flag_impl_Flag, r_slices_ContainsFunc_Simpl_Flag_impl_Flag, hcl, spIdxL_eq f hl hf, hsub_all ho, ← idxF_ge f l 0]
open Classical in
noncomputable def spAnyL (g : FuncId) (sp : List AV → AHeap → Option (AV × AHeap)) : List AV → AHeap → Option (AV × AHeap)
  | [.sl xs false, .fn g' caps], A => if h : g' = g ∧ looseL caps = caps ∧ ∃ l : List Fl, xs = flsA l ∧ l.length ≤ maxLen ∧ ∀ x ∈ l, sp ([.agg [.int .i64 x.l, .int .i64 x.g.n, .int .u32 x.g.e]] ++ caps) A = some (.bool (yesL sp caps A x), A)
      then some (.bool (h.2.2.choose.any (yesL sp caps A)), A) else none
  | _, _ => none
theorem spAnyL_eq {g : FuncId} {sp : List AV → AHeap → Option (AV × AHeap)} (f : Fl → Bool) {l : List Fl} {caps : List AV} {A : AHeap} (hl : l.length ≤ maxLen) (hcl : looseL caps = caps) (h : ∀ x ∈ l, sp ([.agg [.int .i64 x.l, .int .i64 x.g.n, .int .u32 x.g.e]] ++ caps) A = some (.bool (f x), A)) :
    spAnyL g sp [.sl (flsA l) false, .fn g caps] A = some (.bool (l.any f), A) := by
  have hy : ∀ x ∈ l, yesL sp caps A x = f x := by
    intro x hx
    unfold yesL yesOf
    rw [h x hx]
  have hc : g = g ∧ looseL caps = caps ∧ ∃ k : List Fl, flsA l = flsA k ∧ k.length ≤ maxLen ∧ ∀ x ∈ k, sp ([.agg [.int .i64 x.l, .int .i64 x.g.n, .int .u32 x.g.e]] ++ caps) A = some (.bool (yesL sp caps A x), A) := ⟨rfl, hcl, l, rfl, hl, fun x hx => by rw [hy x hx]; exact h x hx⟩
  unfold spAnyL
  dsimp only
  rw [dif_pos hc]
  have e : hc.2.2.choose = l := (flsA_inj.1 hc.2.2.choose_spec.1).symm
  rw [e]
  have : l.any (yesL sp caps A) = l.any f := by
    clear e hc h hl
    induction l with
    | nil => rfl
    | cons x l ih => rw [List.any_cons, List.any_cons, hy x (List.mem_cons_self ..), ih fun y hm => hy y (List.mem_cons_of_mem _ hm)]
  rw [this]
theorem QE_anyL {g : FuncId} {sp : List AV → AHeap → Option (AV × AHeap)} (hg : QE PP g sp) : QE PP 196 (spAnyL g sp) := by
  intro args A r A1 e
  unfold spAnyL at e
  split at e
  · rename_i xs g' caps
    split at e
    · rename_i hc
      obtain ⟨rfl, hcl, hx⟩ := hc
      injection e with e
      injection e with e1 e2
      subst e1; subst e2
      obtain ⟨h1, h2, h3⟩ := hx.choose_spec
      generalize hx.choose = l at h1 h2 h3
      subst h1
      refine T.of_closed (T_anyL hg (caps := []) (os := []) (fun _ => true) [] (by simp) ClosedH.nil rfl rfl (fun x hx => (by cases hx))).1 fun ho hl => ?_
      exact T_anyL hg (os := A.l) _ l h2 ho (by simpa [ltL, AV.lt] using hl) hcl h3
    · cases e
  · cases e

/-! ### valid flags -/
def okFl (x : Fl) : Bool := flagOk x.l x.g.n x.g.e
abbrev flIn (x : Fl) : Prop := 0 ≤ x.g.e ∧ x.g.e ≤ 4294967295
abbrev flsIn (L : List Fl) : Prop := ∀ x ∈ L, flIn x
noncomputable def sp_badFlag : List AV → Option (AV) := pf (ι := (Int) × (Int) × (Int)) (α := AV) (fun ⟨k, n, e⟩ => 0 ≤ e ∧ e ≤ 4294967295) (fun ⟨k, n, e⟩ => [.agg [.int .i64 k, .int .i64 n, .int .u32 e]]) (fun ⟨k, n, e⟩ => .bool (!(flagOk k n e)))
theorem sp_badFlag_eq (k n e : Int) (h : 0 ≤ e ∧ e ≤ 4294967295) : sp_badFlag [.agg [.int .i64 k, .int .i64 n, .int .u32 e]] = some (.bool (!(flagOk k n e))) := by
  unfold sp_badFlag
  exact pf_eq (ι := (Int) × (Int) × (Int)) (α := AV) (k, n, e) h (by rintro ⟨k', n', e'⟩ _ e; simp_all [Int.natCast_inj])
theorem q_impl_badFlag : QP PP 197 sp_badFlag := by
  refine QP_pf (fun i h => ?_) fun i h => ?_
  · obtain ⟨k, n, e⟩ := i; exact ⟨by first | rfl | simp, by first | rfl | simp⟩
  obtain ⟨k, n, e⟩ := i
  replace h : 0 ≤ e ∧ e ≤ 4294967295 := h
  refine P_code (Quiet.q1 q_impl_ValidFlag Quiet.nil) hmix k_impl_badFlag rfl ?_ ?_
  · first | rfl | simp
  show wpc 0 PP _ c_impl_badFlag (initSt [.agg [.int .i64 k, .int .i64 n, .int .u32 e]] .nil) (endP r_impl_badFlag (.bool (!(flagOk k n e))))
  have hv := sp_flagOk_eq k n e h
  simp -dsimp -implicitDefEqProofs [c_impl_badFlag, r_impl_badFlag, hv]
theorem e_anyL_bad : QE PP 196 (spAnyL 197 (spR sp_badFlag)) := QE_anyL q_impl_badFlag.toR
def flsC (L : List Fl) : Int := if L.all okFl = true then 0 else 1
noncomputable def sp_flsOk : List AV → Option (AV) := pf (ι := (List Fl)) (α := AV) (fun L => L.length ≤ maxLen ∧ flsIn L) (fun L => [.sl (flsA L) false]) (fun L => .int .i64 (flsC L))
theorem sp_flsOk_eq (L : List Fl) (h : L.length ≤ maxLen ∧ flsIn L) : sp_flsOk [.sl (flsA L) false] = some (.int .i64 (flsC L)) := by
  unfold sp_flsOk
  exact pf_eq (ι := (List Fl)) (α := AV) L h (by rintro L' _ e; simp_all [Int.natCast_inj])
theorem q_impl_flagsOk : QP PP 173 sp_flsOk := by
  refine QP_pf (fun L h => ?_) fun L h => ?_
  · exact ⟨by first | rfl | simp, by first | rfl | simp⟩
  replace h : L.length ≤ maxLen ∧ flsIn L := h
  refine P_code (Quiet.e1 e_anyL_bad Quiet.nil) hmix k_impl_flagsOk rfl ?_ ?_
  · first | rfl | simp
  show wpc 0 PP _ c_impl_flagsOk (initSt [.sl (flsA L) false] .nil) (endP r_impl_flagsOk (.int .i64 (flsC L)))
  have hany := spAnyL_eq (g := 197) (sp := spR sp_badFlag) (fun x => !(okFl x)) (l := L) (caps := []) (A := ⟨[]⟩) h.1 rfl (fun x hx => by
    have := sp_badFlag_eq x.l x.g.n x.g.e (h.2 x hx)
    simp [this, okFl])
  have e1 : L.any (fun x => !(okFl x)) = !(L.all okFl) := by rw [List.not_all_eq_any_not]
  rw [e1] at hany
  unfold flsC
  cases hb : L.all okFl <;> rw [hb] at hany <;> simp -dsimp -implicitDefEqProofs [c_impl_flagsOk, r_impl_flagsOk, hany]
/-! ### types -/
def typC (x : Fl) : Int := (typeE x.l.toNat x.g.e.toNat : Nat)
def sameB (x y : Fl) : Bool := (x.l == y.l) && (typC x == typC y)
theorem okFl_in {x : Fl} (h : okFl x = true) : (0 ≤ x.l ∧ x.l ≤ 3) ∧ x.l ≤ x.g.n ∧ (0 ≤ x.g.n ∧ x.g.n ≤ 5) := by
  unfold okFl flagOk at h
  simp only [Bool.and_eq_true, decide_eq_true_eq] at h
  have := graphOk_in h.1.1
  exact ⟨h.1.2, h.2, this⟩
theorem sp_type_fl {x : Fl} (h : okFl x = true) (hi : flIn x) : sp_typeF [.agg [.int .i64 x.l, .int .i64 x.g.n, .int .u32 x.g.e]] = some (.agg [.int .i64 x.l, .int .u32 (typC x)]) := by
  obtain ⟨h1, h2, h3⟩ := okFl_in h
  have := sp_typeF_eq x.l.toNat x.g.n.toNat x.g.e.toNat ⟨by omega, by omega⟩
  rw [show ((x.l.toNat : Nat) : Int) = x.l by omega, show ((x.g.n.toNat : Nat) : Int) = x.g.n by omega, show ((x.g.e.toNat : Nat) : Int) = x.g.e by omega] at this
  exact this
noncomputable def sp_sameT1 : List (Option (List AV)) → List AV → Option (AV × List (Option (List AV))) := pv (pf (ι := (Fl) × (List Fl) × (Int) × (Int) × (Int)) (α := AV × List (Option (List AV))) (fun ⟨y, r, k, n, e⟩ => (okFl ⟨k, n, e⟩ = true ∧ flIn ⟨k, n, e⟩) ∧ okFl y = true ∧ flIn y) (fun i => .agg (((fun ⟨y, r, k, n, e⟩ => [some [.sl (flsA (y :: r)) false]] : (Fl) × (List Fl) × (Int) × (Int) × (Int) → List (Option (List AV))) i).map enO) :: (fun ⟨y, r, k, n, e⟩ => [.agg [.int .i64 k, .int .i64 n, .int .u32 e], .ptr 0 0] : (Fl) × (List Fl) × (Int) × (Int) × (Int) → List AV) i) (fun ⟨y, r, k, n, e⟩ => (.bool (!(sameB ⟨k, n, e⟩ y)), [some [.sl (flsA (y :: r)) false]])))
theorem sp_sameT1_eq (y : Fl) (r : List Fl) (k n e : Int) (h : (okFl ⟨k, n, e⟩ = true ∧ flIn ⟨k, n, e⟩) ∧ okFl y = true ∧ flIn y) : sp_sameT1 [some [.sl (flsA (y :: r)) false]] [.agg [.int .i64 k, .int .i64 n, .int .u32 e], .ptr 0 0] = some (.bool (!(sameB ⟨k, n, e⟩ y)), [some [.sl (flsA (y :: r)) false]]) := by
  unfold sp_sameT1 pv
  exact pf_eq (ι := (Fl) × (List Fl) × (Int) × (Int) × (Int)) (α := AV × List (Option (List AV))) (y, r, k, n, e) h (by rintro ⟨y', r', k', n', e'⟩ _ e; simp_all [enO, Int.natCast_inj])
theorem v_impl_sameType_1 : QV PP 211 sp_sameT1 := by
  refine QV_pf fun i h => ?_
  obtain ⟨y, r, k, n, e⟩ := i
  replace h : (okFl ⟨k, n, e⟩ = true ∧ flIn ⟨k, n, e⟩) ∧ okFl y = true ∧ flIn y := h
  refine H_code (Quiet.q1 q_impl_Flag_typeOf Quiet.nil) hmix k_impl_sameType_1 rfl (fun b => b) (by simp [AHeap.n]) (fun _ _ => rfl) (by rfl) (by first | rfl | simp) ?_
  show wpc _ PP _ c_impl_sameType_1 (initSt [.agg [.int .i64 k, .int .i64 n, .int .u32 e], .ptr 0 0] ⟨[some [.sl (flsA (y :: r)) false]]⟩) (endH (fun b => b) r_impl_sameType_1 (.bool (!(sameB ⟨k, n, e⟩ y))) [some [.sl (flsA (y :: r)) false]])
  have hx := sp_type_fl h.1.1 h.1.2
  have hy := sp_type_fl h.2.1 h.2.2
  unfold sameB
  cases h1 : (k == y.l) <;> cases h2 : (typC ⟨k, n, e⟩ == typC y) <;> simp -dsimp -implicitDefEqProofs [c_impl_sameType_1, r_impl_sameType_1, hx, hy, h1, h2, hsub]
theorem e_anyL_type : QE PP 196 (spAnyL 211 (spV sp_sameT1)) := QE_anyL v_impl_sameType_1.toE
def typsB : List Fl → Bool
  | [] => true
  | y :: r => (y :: r).all fun x => sameB x y
abbrev goodFls (L : List Fl) : Prop := L.length ≤ maxLen ∧ L.all okFl = true ∧ flsIn L
theorem all_get {L : List Fl} (h : L.all okFl = true) : ∀ x ∈ L, okFl x = true := List.all_eq_true.1 h
noncomputable def sp_sameTs : List AV → Option (AV) := pf (ι := (List Fl)) (α := AV) (fun L => goodFls L) (fun L => [.sl (flsA L) false]) (fun L => .bool (typsB L))
theorem sp_sameTs_eq (L : List Fl) (h : goodFls L) : sp_sameTs [.sl (flsA L) false] = some (.bool (typsB L)) := by
  unfold sp_sameTs
  exact pf_eq (ι := (List Fl)) (α := AV) L h (by rintro L' _ e; simp_all [Int.natCast_inj])
theorem q_impl_sameType : QP PP 198 sp_sameTs := by
  refine QP_pf (fun L h => ?_) fun L h => ?_
  · exact ⟨by first | rfl | simp, by first | rfl | simp⟩
  replace h : goodFls L := h
  refine P_code (Quiet.e1 e_anyL_type Quiet.nil) hmix k_impl_sameType rfl ?_ ?_
  · first | rfl | simp
  show wpc 0 PP _ c_impl_sameType (initSt [.sl (flsA L) false] .nil) (endP r_impl_sameType (.bool (typsB L)))
  obtain ⟨hl, ho, hi⟩ := h
  cases L with
  | nil =>
    have hany := spAnyL_eq (g := 211) (sp := spV sp_sameT1) (fun _ => false) (l := []) (caps := [.ptr 0 0]) (A := ⟨[some [.sl (flsA []) false]]⟩) (by simp [maxLen]) rfl (fun x hx => (by cases hx))
    rw [List.any_nil] at hany
    simp -dsimp -implicitDefEqProofs [c_impl_sameType, r_impl_sameType, hany, typsB]
  | cons y r =>
    have hany := spAnyL_eq (g := 211) (sp := spV sp_sameT1) (fun x => !(sameB x y)) (l := y :: r) (caps := [.ptr 0 0]) (A := ⟨[some [.sl (flsA (y :: r)) false]]⟩) hl rfl (fun x hx => by
      have := sp_sameT1_eq y r x.l x.g.n x.g.e ⟨⟨all_get ho x hx, hi x hx⟩, all_get ho y (List.mem_cons_self ..), hi y (List.mem_cons_self ..)⟩
      simp [this])
    have e1 : (y :: r).any (fun x => !(sameB x y)) = !((y :: r).all fun x => sameB x y) := by rw [List.not_all_eq_any_not]
    rw [e1] at hany
    have e2 : typsB (y :: r) = (y :: r).all fun x => sameB x y := rfl
    rw [e2]
    cases hb : (y :: r).all fun x => sameB x y <;> rw [hb] at hany <;> simp -dsimp -implicitDefEqProofs [c_impl_sameType, r_impl_sameType, hany]
noncomputable def sp_alike1 : List (Option (List AV)) → List AV → Option (AV × List (Option (List AV))) := pv (pf (ι := (Fl) × (List Fl) × (Int) × (Int) × (Int)) (α := AV × List (Option (List AV))) (fun ⟨y, r, k, n, e⟩ => True) (fun i => .agg (((fun ⟨y, r, k, n, e⟩ => [some [.sl (flsA (y :: r)) false]] : (Fl) × (List Fl) × (Int) × (Int) × (Int) → List (Option (List AV))) i).map enO) :: (fun ⟨y, r, k, n, e⟩ => [.agg [.int .i64 k, .int .i64 n, .int .u32 e], .ptr 0 0] : (Fl) × (List Fl) × (Int) × (Int) × (Int) → List AV) i) (fun ⟨y, r, k, n, e⟩ => (.bool (!(n == y.g.n)), [some [.sl (flsA (y :: r)) false]])))
theorem sp_alike1_eq (y : Fl) (r : List Fl) (k n e : Int) : sp_alike1 [some [.sl (flsA (y :: r)) false]] [.agg [.int .i64 k, .int .i64 n, .int .u32 e], .ptr 0 0] = some (.bool (!(n == y.g.n)), [some [.sl (flsA (y :: r)) false]]) := by
  unfold sp_alike1 pv
  exact pf_eq (ι := (Fl) × (List Fl) × (Int) × (Int) × (Int)) (α := AV × List (Option (List AV))) (y, r, k, n, e) trivial (by rintro ⟨y', r', k', n', e'⟩ _ e; simp_all [enO, Int.natCast_inj])
attribute [simp] sp_alike1_eq
theorem v_impl_alikes_1 : QV PP 199 sp_alike1 := by
  refine QV_pf fun i h => ?_
  obtain ⟨y, r, k, n, e⟩ := i
  replace h : True := h
  refine H_code Quiet.nil hmix k_impl_alikes_1 rfl (fun b => b) (by simp [AHeap.n]) (fun _ _ => rfl) (by rfl) (by first | rfl | simp) ?_
  show wpc _ PP _ c_impl_alikes_1 (initSt [.agg [.int .i64 k, .int .i64 n, .int .u32 e], .ptr 0 0] ⟨[some [.sl (flsA (y :: r)) false]]⟩) (endH (fun b => b) r_impl_alikes_1 (.bool (!(n == y.g.n))) [some [.sl (flsA (y :: r)) false]])
  cases h1 : (n == y.g.n) <;> simp -dsimp -implicitDefEqProofs [c_impl_alikes_1, r_impl_alikes_1, h1, bne, hsub]
theorem e_anyL_size : QE PP 196 (spAnyL 199 (spV sp_alike1)) := QE_anyL v_impl_alikes_1.toE
def sizesB : List Fl → Bool
  | [] => true
  | y :: r => (y :: r).all fun x => x.g.n == y.g.n
def likeB (L : List Fl) : Bool := typsB L && sizesB L
noncomputable def sp_alikes : List AV → Option (AV) := pf (ι := (List Fl)) (α := AV) (fun L => goodFls L) (fun L => [.sl (flsA L) false]) (fun L => .bool (likeB L))
theorem sp_alikes_eq (L : List Fl) (h : goodFls L) : sp_alikes [.sl (flsA L) false] = some (.bool (likeB L)) := by
  unfold sp_alikes
  exact pf_eq (ι := (List Fl)) (α := AV) L h (by rintro L' _ e; simp_all [Int.natCast_inj])
theorem q_impl_alikes : QP PP 174 sp_alikes := by
  refine QP_pf (fun L h => ?_) fun L h => ?_
  · exact ⟨by first | rfl | simp, by first | rfl | simp⟩
  replace h : goodFls L := h
  refine P_code (Quiet.q1 q_impl_sameType (Quiet.e1 e_anyL_size Quiet.nil)) hmix k_impl_alikes rfl ?_ ?_
  · first | rfl | simp
  show wpc 0 PP _ c_impl_alikes (initSt [.sl (flsA L) false] .nil) (endP r_impl_alikes (.bool (likeB L)))
  have hs := sp_sameTs_eq L h
  obtain ⟨hl, ho, hi⟩ := h
  unfold likeB
  cases L with
  | nil =>
    have hs : sp_sameTs [.sl (flsA []) false] = some (.bool true) := hs
    have hany := spAnyL_eq (g := 199) (sp := spV sp_alike1) (fun _ => false) (l := []) (caps := [.ptr 0 0]) (A := ⟨[some [.sl (flsA []) false]]⟩) (by simp [maxLen]) rfl (fun x hx => (by cases hx))
    rw [List.any_nil] at hany
    simp -dsimp -implicitDefEqProofs [c_impl_alikes, r_impl_alikes, hs, hany, typsB, sizesB]
  | cons y r =>
    have hany := spAnyL_eq (g := 199) (sp := spV sp_alike1) (fun x => !(x.g.n == y.g.n)) (l := y :: r) (caps := [.ptr 0 0]) (A := ⟨[some [.sl (flsA (y :: r)) false]]⟩) hl rfl (fun x hx => by
      have := sp_alike1_eq y r x.l x.g.n x.g.e
      simp [this])
    have e1 : (y :: r).any (fun x => !(x.g.n == y.g.n)) = !((y :: r).all fun x => x.g.n == y.g.n) := by rw [List.not_all_eq_any_not]
    rw [e1] at hany
    have e2 : sizesB (y :: r) = (y :: r).all fun x => x.g.n == y.g.n := rfl
    rw [e2]
    cases hb : typsB (y :: r) <;> rw [hb] at hs
    · simp -dsimp -implicitDefEqProofs [c_impl_alikes, r_impl_alikes, hs]
    · cases hc : (y :: r).all fun x => x.g.n == y.g.n <;> rw [hc] at hany <;> simp -dsimp -implicitDefEqProofs [c_impl_alikes, r_impl_alikes, hs, hany]
/-! ### blocks -/
structure Bk where
  F : List Fl
  M : List (List Fr)
@[simp] def bkA (b : Bk) : AV := .agg [.sl (flsA b.F) false, .sl (rowsA b.M) false]
abbrev bkIn (b : Bk) : Prop := (b.F.length ≤ maxLen ∧ flsIn b.F) ∧ b.M.length ≤ maxLen ∧ ∀ r ∈ b.M, r.length ≤ maxLen
noncomputable def bkB (b : Bk) : Bool := (decide (1 ≤ b.F.length) && decide (b.F.length ≤ 8)) && (b.F.all okFl && likeB b.F) && (matB b.M && decide (b.M.length = b.F.length))
noncomputable def sp_blockOk : List AV → Option (AV) := pf (ι := (List Fl) × (List (List Fr))) (α := AV) (fun ⟨F, M⟩ => bkIn ⟨F, M⟩) (fun ⟨F, M⟩ => [.agg [.sl (flsA F) false, .sl (rowsA M) false]]) (fun ⟨F, M⟩ => .bool (bkB ⟨F, M⟩))
theorem sp_blockOk_eq (F : List Fl) (M : List (List Fr)) (h : bkIn ⟨F, M⟩) : sp_blockOk [.agg [.sl (flsA F) false, .sl (rowsA M) false]] = some (.bool (bkB ⟨F, M⟩)) := by
  unfold sp_blockOk
  exact pf_eq (ι := (List Fl) × (List (List Fr))) (α := AV) (F, M) h (by rintro ⟨F', M'⟩ _ e; simp_all [Int.natCast_inj])
theorem q_impl_ValidBlock : QP PP 146 sp_blockOk := by
  refine QP_pf (fun i h => ?_) fun i h => ?_
  · obtain ⟨F, M⟩ := i; exact ⟨by first | rfl | simp, by first | rfl | simp⟩
  obtain ⟨F, M⟩ := i
  replace h : bkIn ⟨F, M⟩ := h
  refine P_code (Quiet.q1 q_impl_in (Quiet.q1 q_impl_flagsOk (Quiet.q1 q_impl_alikes (Quiet.q1 q_impl_ValidMatrix Quiet.nil)))) hmix k_impl_ValidBlock rfl ?_ ?_
  · first | rfl | simp
  show wpc 0 PP _ c_impl_ValidBlock (initSt [.agg [.sl (flsA F) false, .sl (rowsA M) false]] .nil) (endP r_impl_ValidBlock (.bool (bkB ⟨F, M⟩)))
  obtain ⟨⟨hl, hi⟩, hml, hmr⟩ := h
  have hfo := sp_flsOk_eq F ⟨hl, hi⟩
  have hmo := sp_matOk_eq M ⟨hml, hmr⟩
  unfold bkB
  unfold flsC at hfo
  by_cases h1 : 1 ≤ F.length
  · have h1i : (1 : Int) ≤ F.length := by omega
    by_cases h8 : F.length ≤ 8
    · have h8i : (F.length : Int) ≤ 8 := by omega
      cases ho : F.all okFl with
      | false =>
        rw [ho] at hfo
        simp -dsimp -implicitDefEqProofs [c_impl_ValidBlock, r_impl_ValidBlock, h1, h1i, h8, h8i, hfo, ho]
      | true =>
        rw [ho] at hfo
        have hla := sp_alikes_eq F ⟨hl, ho, hi⟩
        cases hk : likeB F with
        | false =>
          rw [hk] at hla
          simp -dsimp -implicitDefEqProofs [c_impl_ValidBlock, r_impl_ValidBlock, h1, h1i, h8, h8i, hfo, ho, hla, hk]
        | true =>
          rw [hk] at hla
          cases hm : matB M with
          | false =>
            rw [hm] at hmo
            simp -dsimp -implicitDefEqProofs [c_impl_ValidBlock, r_impl_ValidBlock, h1, h1i, h8, h8i, hfo, ho, hla, hk, hmo, hm]
          | true =>
            rw [hm] at hmo
            by_cases he : M.length = F.length
            · simp -dsimp -implicitDefEqProofs [c_impl_ValidBlock, r_impl_ValidBlock, h1, h1i, h8, h8i, hfo, ho, hla, hk, hmo, hm, he]
            · have hei : ((M.length : Int) == (F.length : Int)) = false := by simp; omega
              have hei2 : ¬ (M.length : Int) = F.length := by omega
              simp -dsimp -implicitDefEqProofs [c_impl_ValidBlock, r_impl_ValidBlock, h1, h1i, h8, h8i, hfo, ho, hla, hk, hmo, hm, he, hei, hei2]
    · have h8i : ¬ (F.length : Int) ≤ 8 := by omega
      simp -dsimp -implicitDefEqProofs [c_impl_ValidBlock, r_impl_ValidBlock, h1, h1i, h8, h8i]
  · have h1i : ¬ (1 : Int) ≤ F.length := by omega
    simp -dsimp -implicitDefEqProofs [c_impl_ValidBlock, r_impl_ValidBlock, h1, h1i]
noncomputable def sp_badBlock : List AV → Option (AV) := pf (ι := (List Fl) × (List (List Fr))) (α := AV) (fun ⟨F, M⟩ => bkIn ⟨F, M⟩) (fun ⟨F, M⟩ => [.agg [.sl (flsA F) false, .sl (rowsA M) false]]) (fun ⟨F, M⟩ => .bool (!(bkB ⟨F, M⟩)))
theorem sp_badBlock_eq (F : List Fl) (M : List (List Fr)) (h : bkIn ⟨F, M⟩) : sp_badBlock [.agg [.sl (flsA F) false, .sl (rowsA M) false]] = some (.bool (!(bkB ⟨F, M⟩))) := by
  unfold sp_badBlock
  exact pf_eq (ι := (List Fl) × (List (List Fr))) (α := AV) (F, M) h (by rintro ⟨F', M'⟩ _ e; simp_all [Int.natCast_inj])
theorem q_impl_badBlock : QP PP 103 sp_badBlock := by
  refine QP_pf (fun i h => ?_) fun i h => ?_
  · obtain ⟨F, M⟩ := i; exact ⟨by first | rfl | simp, by first | rfl | simp⟩
  obtain ⟨F, M⟩ := i
  replace h : bkIn ⟨F, M⟩ := h
  refine P_code (Quiet.q1 q_impl_ValidBlock Quiet.nil) hmix k_impl_badBlock rfl ?_ ?_
  · first | rfl | simp
  show wpc 0 PP _ c_impl_badBlock (initSt [.agg [.sl (flsA F) false, .sl (rowsA M) false]] .nil) (endP r_impl_badBlock (.bool (!(bkB ⟨F, M⟩))))
  have hv := sp_blockOk_eq F M h
  simp -dsimp -implicitDefEqProofs [c_impl_badBlock, r_impl_badBlock, hv]
end Go.Proofs.YtlglgcmpeabdnaaGreatDoorAi
end

section
/- MADE BY PROGRAM (wip/tools/gen.py): the abstract code of functions. -/
namespace Go.Proofs.YtlglgcmpeabdnaaGreatDoorAi
open Go AC AOp Opd
set_option linter.unusedVariables false
set_option maxRecDepth 100000
def c_spec_l06Block : AC := seq (reg [⟨(some 2), mv (c (.bool false)), none⟩]) (seq (reg [⟨(some 3), mv (t 0), none⟩, ⟨(some 4), nilc (t 3), none⟩, ⟨(some 5), fad (t 4) 0, none⟩, ⟨(some 6), ld (t 5) 1 false, none⟩, ⟨(some 7), callq (c (.fn 170 [])) [t 6], none⟩, ⟨(some 8), bin .eql (t 7) (c (.int .i64 0)), none⟩, ⟨(some 9), mv (t 8), none⟩, ⟨(some 10), mv (t 0), some (9, true)⟩, ⟨(some 11), nilc (t 10), some (9, true)⟩, ⟨(some 12), fad (t 11) 1, some (9, true)⟩, ⟨(some 13), ld (t 12) 1 false, some (9, true)⟩, ⟨(some 14), callq (c (.fn 63 [])) [t 13], some (9, true)⟩, ⟨(some 15), pick (t 9) (t 14) (c (.bool false)), none⟩, ⟨(some 16), mv (t 15), none⟩, ⟨(some 17), mv (t 0), some (16, true)⟩, ⟨(some 18), nilc (t 17), some (16, true)⟩, ⟨(some 19), fad (t 18) 1, some (16, true)⟩, ⟨(some 20), ld (t 19) 1 false, some (16, true)⟩, ⟨(some 21), len (t 20), some (16, true)⟩, ⟨(some 22), mv (t 0), some (16, true)⟩, ⟨(some 23), nilc (t 22), some (16, true)⟩, ⟨(some 24), fad (t 23) 0, some (16, true)⟩, ⟨(some 25), ld (t 24) 1 false, some (16, true)⟩, ⟨(some 26), len (t 25), some (16, true)⟩, ⟨(some 27), bin .eql (t 21) (t 26), some (16, true)⟩, ⟨(some 28), pick (t 16) (t 27) (c (.bool false)), none⟩, ⟨(some 2), mv (t 28), none⟩]) (ret))
def r_spec_l06Block : List ARes := [.tmp 2]
theorem k_spec_l06Block : acLin Go.Proofs.Tryz.prog 142 1 (inQ [63, 170] []) [⟨false, none, [], [], none⟩, ⟨false, some [0, 1, 2, 3, 4, 5, 6, 7, 8, 9, 10, 11, 12, 13, 14, 15, 16, 17, 18, 19, 20, 21, 22, 23, 24, 25, 26], [], [], none⟩] = some (c_spec_l06Block, r_spec_l06Block) := by kernel_rfl
def c_spec_l06Blocks : AC := seq (reg [⟨(some 2), mv (c (.bool false)), none⟩]) (seq (seq (reg [⟨(some 3), mv (c (.int .i64 0)), none⟩]) (block 0 (loop (seq (seq (reg [⟨(some 4), mv (t 3), none⟩, ⟨(some 5), mv (t 0), none⟩, ⟨(some 6), len (t 5), none⟩, ⟨(some 7), bin .lss (t 4) (t 6), none⟩]) (cond (t 7) (skip) (exit 0))) (seq (block 1 (seq (reg [⟨(some 10), mv (t 0), none⟩, ⟨(some 11), mv (t 3), none⟩, ⟨(some 12), iad 2 (t 10) (t 11), none⟩, ⟨(some 13), callq (c (.fn 142 [])) [t 12], none⟩, ⟨(some 14), un .not (t 13), none⟩]) (cond (t 14) (seq (reg [⟨(some 2), mv (c (.bool false)), none⟩]) (ret)) (skip)))) (reg [⟨(some 8), mv (t 3), none⟩, ⟨(some 9), bin .add (t 8) (c (.int .i64 1)), none⟩, ⟨(some 3), mv (t 9), none⟩])))))) (seq (reg [⟨(some 15), mv (t 0), none⟩, ⟨(some 16), len (t 15), none⟩, ⟨(some 17), bin .leq (t 16) (c (.int .i64 6)), none⟩, ⟨(some 2), mv (t 17), none⟩]) (ret)))
def r_spec_l06Blocks : List ARes := [.tmp 2]
theorem k_spec_l06Blocks : acLin Go.Proofs.Tryz.prog 97 1 (inQ [142] []) [] = some (c_spec_l06Blocks, r_spec_l06Blocks) := by kernel_rfl
def c_spec_l06Shown : AC := seq (reg [⟨(some 2), mv (c (.bool false)), none⟩]) (seq (reg [⟨(some 3), mv (t 0), none⟩, ⟨(some 4), nilc (t 3), none⟩, ⟨(some 5), fad (t 4) 1, none⟩, ⟨(some 6), ld (t 5) 1 false, none⟩, ⟨(some 7), callq (c (.fn 97 [])) [t 6], none⟩, ⟨(some 8), mv (t 7), none⟩, ⟨(some 9), mv (t 0), some (8, true)⟩, ⟨(some 10), nilc (t 9), some (8, true)⟩, ⟨(some 11), fad (t 10) 0, some (8, true)⟩, ⟨(some 12), ld (t 11) 1 false, some (8, true)⟩, ⟨(some 13), callq (c (.fn 98 [])) [t 12, c (.int .i64 0), c (.int .i64 5)], some (8, true)⟩, ⟨(some 14), pick (t 8) (t 13) (c (.bool false)), none⟩, ⟨(some 2), mv (t 14), none⟩]) (ret))
def r_spec_l06Shown : List ARes := [.tmp 2]
theorem k_spec_l06Shown : acLin Go.Proofs.Tryz.prog 45 1 (inQ [97, 98] []) [] = some (c_spec_l06Shown, r_spec_l06Shown) := by kernel_rfl
def c_spec_l06Text : AC := seq (reg [⟨(some 2), mv (c (.str ⟨#[]⟩)), none⟩]) (seq (reg [⟨(some 6), mv (t 0), none⟩, ⟨(some 7), nilc (t 6), none⟩, ⟨(some 8), fad (t 7) 0, none⟩, ⟨(some 9), ld (t 8) 1 false, none⟩, ⟨(some 10), callq (c (.fn 78 [])) [t 9], none⟩, ⟨(some 11), bin .add (c (.str ⟨#[99, 101, 114, 116, 105, 102, 105, 99, 97, 116, 101, 32]⟩)) (t 10), none⟩, ⟨(some 12), bin .add (t 11) (c (.str ⟨#[32]⟩)), none⟩, ⟨(some 13), mv (t 0), none⟩, ⟨(some 14), nilc (t 13), none⟩, ⟨(some 15), fad (t 14) 1, none⟩, ⟨(some 16), ld (t 15) 1 false, none⟩, ⟨(some 17), len (t 16), none⟩, ⟨(some 18), callq (c (.fn 78 [])) [t 17], none⟩, ⟨(some 19), bin .add (t 12) (t 18), none⟩, ⟨(some 20), bin .add (t 19) (c (.str ⟨#[10]⟩)), none⟩, ⟨(some 3), mv (t 20), none⟩]) (seq (seq (reg [⟨(some 4), mv (c (.int .i64 0)), none⟩]) (block 0 (loop (seq (seq (reg [⟨(some 21), mv (t 4), none⟩, ⟨(some 22), mv (t 0), none⟩, ⟨(some 23), nilc (t 22), none⟩, ⟨(some 24), fad (t 23) 1, none⟩, ⟨(some 25), ld (t 24) 1 false, none⟩, ⟨(some 26), len (t 25), none⟩, ⟨(some 27), bin .lss (t 21) (t 26), none⟩]) (cond (t 27) (skip) (exit 0))) (seq (block 1 (seq (reg [⟨(some 30), mv (t 3), none⟩, ⟨(some 31), mv (t 0), none⟩, ⟨(some 32), nilc (t 31), none⟩, ⟨(some 33), fad (t 32) 1, none⟩, ⟨(some 34), ld (t 33) 1 false, none⟩, ⟨(some 35), mv (t 4), none⟩, ⟨(some 36), iad 2 (t 34) (t 35), none⟩, ⟨(some 37), fad (t 36) 0, none⟩, ⟨(some 38), ld (t 37) 1 false, none⟩, ⟨(some 39), len (t 38), none⟩, ⟨(some 40), callq (c (.fn 78 [])) [t 39], none⟩, ⟨(some 41), bin .add (c (.str ⟨#[98, 108, 111, 99, 107, 32]⟩)) (t 40), none⟩, ⟨(some 42), bin .add (t 41) (c (.str ⟨#[10]⟩)), none⟩, ⟨(some 43), bin .add (t 30) (t 42), none⟩, ⟨(some 3), mv (t 43), none⟩]) (seq (seq (reg [⟨(some 5), mv (c (.int .i64 0)), none⟩]) (block 2 (loop (seq (seq (reg [⟨(some 44), mv (t 5), none⟩, ⟨(some 45), mv (t 0), none⟩, ⟨(some 46), nilc (t 45), none⟩, ⟨(some 47), fad (t 46) 1, none⟩, ⟨(some 48), ld (t 47) 1 false, none⟩, ⟨(some 49), mv (t 4), none⟩, ⟨(some 50), iad 2 (t 48) (t 49), none⟩, ⟨(some 51), fad (t 50) 0, none⟩, ⟨(some 52), ld (t 51) 1 false, none⟩, ⟨(some 53), len (t 52), none⟩, ⟨(some 54), bin .lss (t 44) (t 53), none⟩]) (cond (t 54) (skip) (exit 2))) (seq (block 3 (reg [⟨(some 57), mv (t 3), none⟩, ⟨(some 58), mv (t 0), none⟩, ⟨(some 59), nilc (t 58), none⟩, ⟨(some 60), fad (t 59) 1, none⟩, ⟨(some 61), ld (t 60) 1 false, none⟩, ⟨(some 62), mv (t 4), none⟩, ⟨(some 63), iad 2 (t 61) (t 62), none⟩, ⟨(some 64), fad (t 63) 0, none⟩, ⟨(some 65), ld (t 64) 1 false, none⟩, ⟨(some 66), mv (t 5), none⟩, ⟨(some 67), iad 3 (t 65) (t 66), none⟩, ⟨(some 68), ld (t 67) 3 true, none⟩, ⟨(some 69), callq (c (.fn 99 [])) [t 68], none⟩, ⟨(some 70), bin .add (t 69) (c (.str ⟨#[10]⟩)), none⟩, ⟨(some 71), bin .add (t 57) (t 70), none⟩, ⟨(some 3), mv (t 71), none⟩])) (reg [⟨(some 55), mv (t 5), none⟩, ⟨(some 56), bin .add (t 55) (c (.int .i64 1)), none⟩, ⟨(some 5), mv (t 56), none⟩])))))) (reg [⟨(some 72), mv (t 3), none⟩, ⟨(some 73), mv (t 0), none⟩, ⟨(some 74), nilc (t 73), none⟩, ⟨(some 75), fad (t 74) 1, none⟩, ⟨(some 76), ld (t 75) 1 false, none⟩, ⟨(some 77), mv (t 4), none⟩, ⟨(some 78), iad 2 (t 76) (t 77), none⟩, ⟨(some 79), fad (t 78) 1, none⟩, ⟨(some 80), ld (t 79) 1 false, none⟩, ⟨(some 81), callq (c (.fn 100 [])) [t 80], none⟩, ⟨(some 82), bin .add (t 72) (t 81), none⟩, ⟨(some 3), mv (t 82), none⟩])))) (reg [⟨(some 28), mv (t 4), none⟩, ⟨(some 29), bin .add (t 28) (c (.int .i64 1)), none⟩, ⟨(some 4), mv (t 29), none⟩])))))) (seq (reg [⟨(some 83), mv (t 3), none⟩, ⟨(some 2), mv (t 83), none⟩]) (ret))))
def r_spec_l06Text : List ARes := [.tmp 2]
theorem k_spec_l06Text : acLin Go.Proofs.Tryz.prog 46 1 (inQ [78, 99, 100] []) [⟨false, none, [], [], none⟩, ⟨false, some [0, 1, 2, 3, 4, 5, 6, 7, 8, 9, 10, 11, 12, 13, 14, 15], [], [], none⟩] = some (c_spec_l06Text, r_spec_l06Text) := by kernel_rfl
def c_spec_CertificateText : AC := seq (reg [⟨(some 1), box 2 (t 0), none⟩, ⟨(some 2), mv (c (.str ⟨#[]⟩)), none⟩]) (seq (seq (reg [⟨(some 3), calle (c (.fn 45 [])) [t 1] [], none⟩, ⟨(some 4), un .not (t 3), none⟩]) (cond (t 4) (seq (reg [⟨(some 2), mv (c (.str ⟨#[]⟩)), none⟩]) (ret)) (skip))) (seq (reg [⟨(some 5), calle (c (.fn 46 [])) [t 1] [], none⟩, ⟨(some 2), mv (t 5), none⟩]) (ret)))
def r_spec_CertificateText : List ARes := [.tmp 2]
theorem k_spec_CertificateText : acLin Go.Proofs.Tryz.prog 13 1 (inQ [] [45, 46]) [] = some (c_spec_CertificateText, r_spec_CertificateText) := by kernel_rfl
def c_impl_written : AC := seq (reg [⟨(some 1), box 2 (t 0), none⟩, ⟨(some 2), mv (c (.bool false)), none⟩]) (seq (reg [⟨(some 3), fad (t 1) 0, none⟩, ⟨(some 4), ld (t 3) 1 false, none⟩, ⟨(some 5), callq (c (.fn 37 [])) [t 4, c (.int .i64 0), c (.int .i64 5)], none⟩, ⟨(some 6), mv (t 5), none⟩, ⟨(some 7), fad (t 1) 1, some (6, true)⟩, ⟨(some 8), ld (t 7) 1 false, some (6, true)⟩, ⟨(some 9), len (t 8), some (6, true)⟩, ⟨(some 10), bin .leq (t 9) (c (.int .i64 6)), some (6, true)⟩, ⟨(some 11), pick (t 6) (t 10) (c (.bool false)), none⟩, ⟨(some 12), mv (t 11), none⟩, ⟨(some 13), fad (t 1) 1, some (12, true)⟩, ⟨(some 14), ld (t 13) 1 false, some (12, true)⟩, ⟨(some 15), calle (c (.fn 102 [])) [t 14, c (.fn 103 [])] [], some (12, true)⟩, ⟨(some 16), un .not (t 15), some (12, true)⟩, ⟨(some 17), pick (t 12) (t 16) (c (.bool false)), none⟩, ⟨(some 2), mv (t 17), none⟩]) (ret))
def r_impl_written : List ARes := [.tmp 2]
theorem k_impl_written : acLin Go.Proofs.Tryz.prog 48 1 (inQ [37, 103] [102]) [] = some (c_impl_written, r_impl_written) := by kernel_rfl
def c_impl_CertificateText : AC := seq (reg [⟨(some 1), box 2 (t 0), none⟩, ⟨(some 2), mv (c (.str ⟨#[]⟩)), none⟩]) (seq (seq (reg [⟨(some 8), ld (t 1) 2 true, none⟩, ⟨(some 9), callq (c (.fn 48 [])) [t 8], none⟩, ⟨(some 10), un .not (t 9), none⟩]) (cond (t 10) (seq (reg [⟨(some 2), mv (c (.str ⟨#[]⟩)), none⟩]) (ret)) (skip))) (seq (reg [⟨(some 11), bld [.nilp, .sl [] true] [], none⟩, ⟨(some 3), allocb 85, none⟩, ⟨none, st (t 3) 2 (t 11), none⟩]) (seq (reg [⟨(some 12), fad (t 1) 0, none⟩, ⟨(some 13), ld (t 12) 1 false, none⟩, ⟨(some 14), callq (c (.fn 50 [])) [t 13], none⟩, ⟨(some 15), bin .add (c (.str ⟨#[99, 101, 114, 116, 105, 102, 105, 99, 97, 116, 101, 32]⟩)) (t 14), none⟩, ⟨(some 16), bin .add (t 15) (c (.str ⟨#[32]⟩)), none⟩, ⟨(some 17), fad (t 1) 1, none⟩, ⟨(some 18), ld (t 17) 1 false, none⟩, ⟨(some 19), len (t 18), none⟩, ⟨(some 20), callq (c (.fn 50 [])) [t 19], none⟩, ⟨(some 21), bin .add (t 16) (t 20), none⟩, ⟨(some 22), bin .add (t 21) (c (.str ⟨#[10]⟩)), none⟩, ⟨(some 23), calle (c (.fn 49 [])) [t 3, t 22] [], none⟩]) (seq (seq (reg [⟨(some 24), fad (t 1) 1, none⟩, ⟨(some 25), ld (t 24) 1 false, none⟩, ⟨(some 26), len (t 25), none⟩, ⟨(some 27), mv (c (.int .i64 0)), none⟩]) (block 0 (loop (seq (reg [⟨(some 28), bin .lss (t 27) (t 26), none⟩]) (seq (cond (t 28) (skip) (exit 0)) (seq (block 1 (seq (reg [⟨(some 29), iad 2 (t 25) (t 27), none⟩, ⟨(some 30), ld (t 29) 2 true, none⟩, ⟨(some 5), alloc [.sl [] true, .sl [] true], none⟩, ⟨none, st (t 5) 2 (t 30), none⟩]) (seq (reg [⟨(some 31), fad (t 5) 0, none⟩, ⟨(some 32), ld (t 31) 1 false, none⟩, ⟨(some 33), len (t 32), none⟩, ⟨(some 34), callq (c (.fn 50 [])) [t 33], none⟩, ⟨(some 35), bin .add (c (.str ⟨#[98, 108, 111, 99, 107, 32]⟩)) (t 34), none⟩, ⟨(some 36), bin .add (t 35) (c (.str ⟨#[10]⟩)), none⟩, ⟨(some 37), calle (c (.fn 49 [])) [t 3, t 36] [], none⟩]) (seq (seq (reg [⟨(some 38), fad (t 5) 0, none⟩, ⟨(some 39), ld (t 38) 1 false, none⟩, ⟨(some 40), len (t 39), none⟩, ⟨(some 41), mv (c (.int .i64 0)), none⟩]) (block 2 (loop (seq (reg [⟨(some 42), bin .lss (t 41) (t 40), none⟩]) (seq (cond (t 42) (skip) (exit 2)) (seq (block 3 (seq (reg [⟨(some 43), iad 3 (t 39) (t 41), none⟩, ⟨(some 44), ld (t 43) 3 true, none⟩, ⟨(some 7), alloc [.int .i64 0, .int .i64 0, .int .u32 0], none⟩, ⟨none, st (t 7) 3 (t 44), none⟩]) (reg [⟨(some 45), ld (t 7) 3 true, none⟩, ⟨(some 46), callq (c (.fn 51 [])) [t 45], none⟩, ⟨(some 47), bin .add (t 46) (c (.str ⟨#[10]⟩)), none⟩, ⟨(some 48), calle (c (.fn 49 [])) [t 3, t 47] [], none⟩]))) (reg [⟨(some 49), bin .add (t 41) (c (.int .i64 1)), none⟩, ⟨(some 41), mv (t 49), none⟩]))))))) (reg [⟨(some 50), fad (t 5) 1, none⟩, ⟨(some 51), ld (t 50) 1 false, none⟩, ⟨(some 52), callq (c (.fn 52 [])) [t 51], none⟩, ⟨(some 53), calle (c (.fn 49 [])) [t 3, t 52] [], none⟩]))))) (reg [⟨(some 54), bin .add (t 27) (c (.int .i64 1)), none⟩, ⟨(some 27), mv (t 54), none⟩]))))))) (seq (reg [⟨(some 55), calle (c (.fn 53 [])) [t 3] [], none⟩, ⟨(some 2), mv (t 55), none⟩]) (ret))))))
def r_impl_CertificateText : List ARes := [.tmp 2]
theorem k_impl_CertificateText : acLin Go.Proofs.Tryz.prog 15 1 (inQ [48, 50, 51, 52] [49, 53]) [⟨false, none, [], [], none⟩, ⟨false, none, [], [], none⟩, ⟨false, none, [], [], none⟩, ⟨false, none, [], [], none⟩, ⟨false, none, [], [], none⟩, ⟨false, some [0, 1, 2, 3, 4, 5, 6, 7, 8, 9, 10, 11], [], [], none⟩] = some (c_impl_CertificateText, r_impl_CertificateText) := by kernel_rfl
end Go.Proofs.YtlglgcmpeabdnaaGreatDoorAi
end
