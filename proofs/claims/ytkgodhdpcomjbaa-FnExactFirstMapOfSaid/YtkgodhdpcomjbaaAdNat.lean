/- Edges of graphs as bits. -/
import Derived.Test.YtkgodhdpcomjbaaAdB7
namespace Go.Proofs.YtkgodhdpcomjbaaAi
open Go Go.RowKit
set_option linter.unusedVariables false
set_option linter.unusedSimpArgs false

theorem or_step (c : Bool) (a b k : Nat) : (if c = true then a ||| 2 ^ b else a).testBit k = (a.testBit k || (c && decide (b = k))) := by
  cases c <;> simp [Nat.testBit_or, Nat.testBit_two_pow]
theorem bitI_c {i j : Nat} : bitI i j = bitI j i := by
  unfold bitI
  by_cases h : i < j
  · rw [if_pos h, if_neg (by omega)]
  · by_cases h2 : j < i
    · rw [if_neg h, if_pos h2]
    · have : i = j := by omega
      subst this; simp
theorem tri_step (j : Nat) : (j + 1) * j / 2 = j * (j - 1) / 2 + j := by
  cases j with
  | zero => rfl
  | succ j =>
    have h : (j + 1 + 1) * (j + 1) = (j + 1) * (j + 1 - 1) + (j + 1) * 2 := by
      rw [← Nat.mul_add, show j + 1 - 1 + 2 = j + 1 + 1 by omega, Nat.mul_comm]
    rw [h, Nat.add_mul_div_right _ _ (by omega)]
theorem tri_mono {i j : Nat} (h : i ≤ j) : i * (i - 1) / 2 ≤ j * (j - 1) / 2 := Nat.div_le_div_right (Nat.mul_le_mul h (by omega))
theorem bitI_inj {i j i' j' : Nat} (h : i < j) (h' : i' < j') (e : bitI i j = bitI i' j') : i = i' ∧ j = j' := by
  unfold bitI at e
  rw [if_pos h, if_pos h'] at e
  have key : ∀ a b : Nat, a < b → a * (a - 1) / 2 + a ≤ b * (b - 1) / 2 := by
    intro a b hab
    have := tri_mono (i := a + 1) (j := b) (by omega)
    rw [show a + 1 - 1 = a by omega, tri_step] at this
    exact this
  rcases Nat.lt_trichotomy j j' with hj | hj | hj
  · have := key j j' hj; omega
  · subst hj; omega
  · have := key j' j hj; omega
theorem rowE_bit (J : Nat → Nat → Bool) (j e k : Nat) : ∀ i, i ≤ j → ((rowE J j e i).testBit k = true ↔ (e.testBit k = true ∨ ∃ a, a < i ∧ J a j = true ∧ bitI a j = k))
  | 0, _ => by simp [rowE]
  | i + 1, h => by
    rw [rowE, or_step, Bool.or_eq_true, rowE_bit J j e k i (by omega), or_assoc]
    simp only [Bool.and_eq_true, decide_eq_true_eq]
    constructor
    · rintro (h1 | ⟨a, h1, h2⟩ | ⟨h1, h2⟩)
      · exact .inl h1
      · exact .inr ⟨a, by omega, h2⟩
      · exact .inr ⟨i, by omega, h1, h2⟩
    · rintro (h1 | ⟨a, h1, h2, h3⟩)
      · exact .inl h1
      · by_cases ha : a = i
        · subst ha; exact .inr (.inr ⟨h2, h3⟩)
        · exact .inr (.inl ⟨a, by omega, h2, h3⟩)
/-- The edges that are made. -/
theorem madeE_bit (J : Nat → Nat → Bool) (k : Nat) : ∀ n, (madeE J n).testBit k = true ↔ ∃ a b, a < b ∧ b < n ∧ J a b = true ∧ bitI a b = k
  | 0 => by simp [madeE]
  | n + 1 => by
    rw [madeE, rowE_bit J n _ k n (Nat.le_refl _), madeE_bit J k n]
    constructor
    · rintro (⟨a, b, h1, h2, h3⟩ | ⟨a, h1, h2⟩)
      · exact ⟨a, b, h1, by omega, h3⟩
      · exact ⟨a, n, h1, by omega, h2⟩
    · rintro ⟨a, b, h1, h2, h3⟩
      by_cases hb : b = n
      · subst hb; exact .inr ⟨a, h1, h3⟩
      · exact .inl ⟨a, b, h1, by omega, h3⟩
theorem madeE_has (J : Nat → Nat → Bool) {n i j : Nat} (h : i < j) (hj : j < n) : (madeE J n).testBit (bitI i j) = J i j := by
  rw [Bool.eq_iff_iff, madeE_bit]
  constructor
  · rintro ⟨a, b, h1, h2, h3, h4⟩
    obtain ⟨rfl, rfl⟩ := bitI_inj h1 h h4
    exact h3
  · intro hJ
    exact ⟨i, j, h, hj, hJ, rfl⟩
/-- Each bit below is one of a pair. -/
theorem bit_pair {n k : Nat} (hk : k < n * (n - 1) / 2) : ∃ a b, a < b ∧ b < n ∧ bitI a b = k := by
  induction n with
  | zero => simp at hk
  | succ n ih =>
    rw [show n + 1 - 1 = n by omega, tri_step] at hk
    by_cases h : k < n * (n - 1) / 2
    · obtain ⟨a, b, h1, h2, h3⟩ := ih h
      exact ⟨a, b, h1, by omega, h3⟩
    · refine ⟨k - n * (n - 1) / 2, n, by omega, by omega, ?_⟩
      unfold bitI
      rw [if_pos (by omega)]
      omega
theorem bitI_tri {a b n : Nat} (h : a < b) (hb : b < n) : bitI a b < n * (n - 1) / 2 := by
  unfold bitI
  rw [if_pos h]
  have := tri_mono (i := b + 1) (j := n) (by omega)
  rw [show b + 1 - 1 = b by omega, tri_step] at this
  omega
theorem edges_ext {n e e' : Nat} (he : e < 2 ^ (n * (n - 1) / 2)) (he' : e' < 2 ^ (n * (n - 1) / 2)) (h : ∀ a b, a < b → b < n → e.testBit (bitI a b) = e'.testBit (bitI a b)) : e = e' := by
  apply Nat.eq_of_testBit_eq
  intro k
  by_cases hk : k < n * (n - 1) / 2
  · obtain ⟨a, b, h1, h2, rfl⟩ := bit_pair hk
    exact h a b h1 h2
  · rw [Nat.testBit_lt_two_pow (Nat.lt_of_lt_of_le he (Nat.pow_le_pow_right (by omega) (by omega))), Nat.testBit_lt_two_pow (Nat.lt_of_lt_of_le he' (Nat.pow_le_pow_right (by omega) (by omega)))]
theorem madeE_tri (J : Nat → Nat → Bool) (n : Nat) : madeE J n < 2 ^ (n * (n - 1) / 2) := by
  apply Nat.lt_of_not_le
  intro h
  obtain ⟨k, hk1, hk2⟩ := Nat.exists_ge_and_testBit_of_ge_two_pow h
  rw [madeE_bit] at hk2
  obtain ⟨a, b, h1, h2, _, h4⟩ := hk2
  have := bitI_tri h1 h2
  omega
theorem xor_made {n e : Nat} (he : e < 2 ^ (n * (n - 1) / 2)) : (2 ^ (n * (n - 1) / 2) - 1) ^^^ e = madeE (fun i j => !e.testBit (bitI i j)) n := by
  refine edges_ext (Nat.xor_lt_two_pow (by have := Nat.two_pow_pos (n * (n - 1) / 2); omega) he) (madeE_tri _ n) fun a b h1 h2 => ?_
  rw [madeE_has _ h1 h2, Nat.testBit_xor, Nat.testBit_two_pow_sub_one]
  simp [bitI_tri h1 h2]
end Go.Proofs.YtkgodhdpcomjbaaAi
