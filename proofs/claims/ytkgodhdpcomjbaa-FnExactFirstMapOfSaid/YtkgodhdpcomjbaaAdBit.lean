/- Bits of numbers; copies of cells over and over. -/
import Derived.Test.YtkgodhdpcomjbaaAdEnc
namespace Go.Proofs.YtkgodhdpcomjbaaAi
open Go Go.RowKit
set_option linter.unusedVariables false
set_option linter.unusedSimpArgs false

theorem ofNat_toNat (w n : Nat) : (BitVec.ofInt w (n : Int)).toNat = n % 2 ^ w := by
  rw [BitVec.toNat_ofInt]
  omega
theorem wrapU {k : IntKind} (hk : k.signed = false) {n : Int} (h0 : 0 ≤ n) (h1 : n < 2 ^ k.bits) : k.wrap n = n := by
  simp only [IntKind.wrap, hk, Bool.false_and]
  rw [Int.emod_eq_of_lt h0 h1]
  simp
theorem wrap32 {n : Int} (h0 : 0 ≤ n) (h1 : n < 4294967296) : IntKind.u32.wrap n = n := wrapU rfl h0 h1
theorem wrapU64 {n : Int} (h0 : 0 ≤ n) (h1 : n < 18446744073709551616) : IntKind.u64.wrap n = n := wrapU rfl h0 h1
theorem and32 {a b : Nat} (ha : a < 4294967296) (hb : b < 4294967296) : IntKind.u32.wrap (BitVec.ofInt IntKind.u32.bits (a : Int) &&& BitVec.ofInt IntKind.u32.bits (b : Int)).toNat = ((a &&& b : Nat) : Int) := by
  rw [BitVec.toNat_and, ofNat_toNat, ofNat_toNat]
  simp only [IntKind.bits]
  rw [Nat.mod_eq_of_lt (by omega), Nat.mod_eq_of_lt (by omega)]
  exact wrap32 (by omega) (by have : a &&& b ≤ a := Nat.and_le_left; omega)
theorem or32 {a b : Nat} (ha : a < 4294967296) (hb : b < 4294967296) : IntKind.u32.wrap (BitVec.ofInt IntKind.u32.bits (a : Int) ||| BitVec.ofInt IntKind.u32.bits (b : Int)).toNat = ((a ||| b : Nat) : Int) := by
  rw [BitVec.toNat_or, ofNat_toNat, ofNat_toNat]
  simp only [IntKind.bits]
  rw [Nat.mod_eq_of_lt (by omega), Nat.mod_eq_of_lt (by omega)]
  exact wrap32 (by omega) (by have := Nat.or_lt_two_pow (n := 32) (x := a) (y := b) (by omega) (by omega); omega)
theorem xor32 {a b : Nat} (ha : a < 4294967296) (hb : b < 4294967296) : IntKind.u32.wrap (BitVec.ofInt IntKind.u32.bits (a : Int) ^^^ BitVec.ofInt IntKind.u32.bits (b : Int)).toNat = ((a ^^^ b : Nat) : Int) := by
  rw [BitVec.toNat_xor, ofNat_toNat, ofNat_toNat]
  simp only [IntKind.bits]
  rw [Nat.mod_eq_of_lt (by omega), Nat.mod_eq_of_lt (by omega)]
  exact wrap32 (by omega) (by have := Nat.xor_lt_two_pow (n := 32) (x := a) (y := b) (by omega) (by omega); omega)
theorem andN32 {a b : Nat} (ha : a < 4294967296) (hb : b < 4294967296) : IntKind.u32.wrap (BitVec.ofInt IntKind.u32.bits (a : Int) &&& ~~~(BitVec.ofInt IntKind.u32.bits (b : Int))).toNat = ((a &&& (4294967295 - b) : Nat) : Int) := by
  rw [BitVec.toNat_and, BitVec.toNat_not, ofNat_toNat, ofNat_toNat]
  simp only [IntKind.bits]
  rw [Nat.mod_eq_of_lt (by omega), Nat.mod_eq_of_lt (by omega)]
  exact wrap32 (by omega) (by have : a &&& (2 ^ 32 - 1 - b) ≤ a := Nat.and_le_left; omega)
theorem mask64 {a : Int} (h0 : 0 ≤ a) (ha : a < 4294967296) : IntKind.u64.wrap (BitVec.ofInt IntKind.u64.bits a &&& BitVec.ofInt IntKind.u64.bits 4294967295).toNat = a := by
  obtain ⟨n, rfl⟩ := Int.eq_ofNat_of_zero_le h0
  have e : (4294967295 : Int) = ((4294967295 : Nat) : Int) := rfl
  rw [BitVec.toNat_and, e, ofNat_toNat, ofNat_toNat]
  simp only [IntKind.bits]
  rw [Nat.mod_eq_of_lt (by omega), Nat.mod_eq_of_lt (by omega)]
  have : n &&& 4294967295 = n := by
    have := Nat.and_two_pow_sub_one_eq_mod n 32
    rw [show 2 ^ 32 - 1 = 4294967295 from rfl] at this
    rw [this, Nat.mod_eq_of_lt (by omega)]
  rw [this]
  exact wrapU64 (by omega) (by omega)
theorem shr0 {a : Int} {n : Nat} (h0 : 0 ≤ a) (ha : a < 2 ^ n) : a.fdiv (2 ^ n) = 0 := by
  rw [Int.fdiv_eq_ediv_of_nonneg _ (by have : (0 : Int) < 2 ^ n := Int.pow_pos (by omega); omega)]
  exact Int.ediv_eq_zero_of_lt h0 ha

/-! ### cells over and over -/
def rep (k : Nat) (x : List AV) : List AV := (List.replicate k x).flatten
theorem rep_len (k : Nat) (x : List AV) : (rep k x).length = k * x.length := flat_len x k
theorem rep_add (k j : Nat) (x : List AV) : rep (k + j) x = rep k x ++ rep j x := by
  unfold rep
  rw [← List.replicate_append_replicate, List.flatten_append]
theorem rep_take (k j : Nat) (x : List AV) (h : j ≤ k) : (rep k x).take (j * x.length) = rep j x := by
  obtain ⟨d, rfl⟩ : ∃ d, k = j + d := ⟨k - j, by omega⟩
  rw [rep_add, List.take_append_of_le_length (by rw [rep_len]; exact Nat.le_refl _), ← rep_len j x, List.take_length]
theorem rep_drop (k j : Nat) (x : List AV) (h : j ≤ k) : (rep k x).drop (j * x.length) = rep (k - j) x := by
  obtain ⟨d, rfl⟩ : ∃ d, k = j + d := ⟨k - j, by omega⟩
  rw [rep_add, ← rep_len j x, List.drop_left, show j + d - j = d by omega]
theorem rep_one (x : List AV) : rep 1 x = x := by simp [rep]
theorem reps_lt {n : Nat} (k : Nat) {x : List AV} (h : ltL n x = true) : ltL n (rep k x) = true := newCells_lt 0 k h
theorem setCells_splice : ∀ (vs cs : List AV) (off : Nat), off + vs.length ≤ cs.length → setCells cs off vs = cs.take off ++ vs ++ cs.drop (off + vs.length)
  | [], cs, off, h => by simp [setCells]
  | v :: vs, cs, off, h => by
    simp only [List.length_cons] at h
    rw [setCells, setCells_splice vs _ (off + 1) (by simp; omega)]
    rw [List.take_add_one, List.getElem?_set_self (by omega), List.take_set_of_le (Nat.le_refl _), List.drop_set_of_lt (by omega)]
    simp only [Option.toList_some, List.append_assoc, List.singleton_append, List.length_cons]
    rw [show off + 1 + vs.length = off + (vs.length + 1) by omega]
theorem rep_step {e N k j : Nat} {x z : List AV} (hx : x.length = e) (hz : z.length = e) (hk : k + j ≤ N) :
    setCells (rep k x ++ rep (N - k) z) (k * e) (rep j x) = rep (k + j) x ++ rep (N - (k + j)) z := by
  have l1 : (rep k x).length = k * e := by rw [rep_len, hx]
  have l2 : (rep j x).length = j * e := by rw [rep_len, hx]
  have l3 : (rep (N - k) z).length = (N - k) * e := by rw [rep_len, hz]
  have hle : k * e + j * e ≤ k * e + (N - k) * e := by
    have : j * e ≤ (N - k) * e := Nat.mul_le_mul_right _ (by omega)
    omega
  rw [setCells_splice _ _ _ (by rw [List.length_append, l1, l2, l3]; exact hle), ← l1, List.take_left, List.drop_append, l1, l2, show k * e + j * e - k * e = j * e by omega, List.drop_of_length_le (by rw [l1]; omega), rep_add]
  rw [show j * e = j * z.length by rw [hz], rep_drop _ _ _ (by omega), show N - k - j = N - (k + j) by omega]
  simp
theorem rep_pre {e N k j : Nat} {x z : List AV} (hx : x.length = e) (hj : j ≤ k) : (List.take (k * e) (rep k x ++ rep (N - k) z)).take (j * e) = rep j x := by
  have l1 : (rep k x).length = k * e := by rw [rep_len, hx]
  rw [← l1, List.take_left, ← hx, rep_take _ _ _ hj]
theorem reps_all {e N k : Nat} {x z : List AV} (hx : x.length = e) (hz : z.length = e) (hk : k ≤ N) : (rep k x ++ rep (N - k) z).length = N * e := by
  rw [List.length_append, rep_len, rep_len, hx, hz, ← Nat.add_mul, show k + (N - k) = N by omega]
theorem rep_zero (x : List AV) : rep 0 x = [] := by simp [rep]

end Go.Proofs.YtkgodhdpcomjbaaAi
