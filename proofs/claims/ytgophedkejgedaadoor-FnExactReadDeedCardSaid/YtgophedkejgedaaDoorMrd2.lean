/- Contracts, joined. -/
import Derived.Test.YtgophedkejgedaaDoorMrd1
import Derived.Test.YtgophedkejgedaaDoorAiX
import Derived.Test.YtgophedkejgedaaDoorProg
import Derived.Test.YtgophedkejgedaaDoorShelfB
section
/- Contracts: numbers and pieces of texts of the reference. -/
namespace Go.Proofs.YtgophedkejgedaaDoorAi
open Go Go.RowKit
set_option linter.unusedVariables false
set_option linter.unusedSimpArgs false
set_option maxRecDepth 20000

def bAt (s : ByteArray) (i : Nat) : Int := ((s.data.toList[i]?.getD 0).toNat : Int)
theorem bAt_in (s : ByteArray) (i : Nat) : 0 ≤ bAt s i ∧ bAt s i ≤ 255 := by
  unfold bAt
  have := (s.data.toList[i]?.getD 0).toNat_lt
  omega
theorem bAt_get (s : ByteArray) (i : Nat) (h : i < s.size) : ((s[i]'h).toNat : Int) = bAt s i := by
  have h' : i < s.data.toList.length := by rw [Array.length_toList]; exact h
  unfold bAt
  rw [List.getElem?_eq_getElem h']
  rfl
theorem idx_at (s : ByteArray) (i : Nat) (h : i < s.size) : bytA s (i : Int) = some (.int .u8 (bAt s i)) := by
  unfold bytA
  rw [dif_pos ⟨by omega, by simpa using h⟩]
  congr 2
  exact bAt_get s i h
def isDig (c : Int) : Bool := decide (48 ≤ c) && decide (c ≤ 57)
def nV (s : ByteArray) : Nat → Int
  | 0 => 0
  | i + 1 => nV s i * 10 + (bAt s i - 48)
def nOk (s : ByteArray) : Nat → Bool
  | 0 => true
  | i + 1 => nOk s i && isDig (bAt s i)
theorem nV_in (s : ByteArray) : ∀ i, nOk s i = true → 0 ≤ nV s i ∧ nV s i < 10 ^ i
  | 0, _ => by simp [nV]
  | i + 1, h => by
    simp only [nOk, isDig, Bool.and_eq_true, decide_eq_true_eq] at h
    have ih := nV_in s i h.1
    simp only [nV]
    have : (10 : Int) ^ (i + 1) = 10 ^ i * 10 := Int.pow_succ ..
    omega
theorem nOk_false {s : ByteArray} {i : Nat} (h : isDig (bAt s i) = false) : ∀ j, i < j → nOk s j = false
  | 0, h0 => by omega
  | j + 1, h0 => by
    rw [nOk]
    by_cases e : i = j
    · subst e; rw [h]; simp
    · rw [nOk_false h j (by omega)]; rfl
def l01B (s : ByteArray) : Bool := !(decide (s.size < 1) || decide (9 < s.size)) && !((bAt s 0 == 48) && decide (1 < s.size)) && nOk s s.size
def l01V (s : ByteArray) : Int := if l01B s = true then nV s s.size else 0
noncomputable def sp_l01Num : List AV → Option (AV) := pf (ι := (ByteArray)) (α := AV) (fun s => s.size ≤ 1048576) (fun s => [.str s]) (fun s => .tup [.int .i64 (l01V s), .bool (l01B s)])
theorem sp_l01Num_eq (s : ByteArray) (h : s.size ≤ 1048576) : sp_l01Num [.str s] = some (.tup [.int .i64 (l01V s), .bool (l01B s)]) := by
  unfold sp_l01Num
  exact pf_eq (ι := (ByteArray)) (α := AV) s h (by rintro s' _ e; simp_all [Int.natCast_inj])
theorem q_spec_l01Number : QP PP 50 sp_l01Num := by
  refine QP_pf (fun s h => ?_) fun s h => ?_
  · exact ⟨by first | rfl | simp, by first | rfl | simp⟩
  replace h : s.size ≤ 1048576 := h
  refine P_code Quiet.nil hmix k_spec_l01Number rfl ?_ ?_
  · first | rfl | simp
  show wpc 0 PP _ c_spec_l01Number (initSt [.str s] .nil) (endP r_spec_l01Number (.tup [.int .i64 (l01V s), .bool (l01B s)]))
  by_cases h1 : s.size < 1
  · have hv : l01B s = false := by unfold l01B; simp [h1]
    have hz : s.size = 0 := by omega
    simp -dsimp -implicitDefEqProofs [c_spec_l01Number, r_spec_l01Number, hz, hv, l01V]
  by_cases h9 : 9 < s.size
  · have hv : l01B s = false := by unfold l01B; simp [h9]
    have h1' : ¬ ((s.size : Int) < 1) := by omega
    have h9' : (9 : Int) < s.size := by omega
    simp -dsimp -implicitDefEqProofs [c_spec_l01Number, r_spec_l01Number, h1, h9, h1', h9', hv, l01V]
  have h1' : ¬ ((s.size : Int) < 1) := by omega
  have h9' : ¬ (9 : Int) < s.size := by omega
  have i0 : bytA s 0 = some (.int .u8 (bAt s 0)) := idx_at s 0 (by omega)
  by_cases hz : (bAt s 0 == 48) = true ∧ 1 < s.size
  · have hv : l01B s = false := by unfold l01B; rw [hz.1]; simp [hz.2]
    have hz2 : (1 : Int) < s.size := by omega
    simp -dsimp -implicitDefEqProofs [c_spec_l01Number, r_spec_l01Number, h1, h9, h1', h9', i0, hz.1, hz.2, hz2, hv, l01V]
  have hz' : ((bAt s 0 == 48) && decide ((1 : Int) < s.size)) = false := by
    cases e : (bAt s 0 == 48) with
    | false => rfl
    | true =>
      have : ¬ 1 < s.size := fun h => hz ⟨e, h⟩
      simp; omega
  have hz'' : ((bAt s 0 == 48) && decide (1 < s.size)) = false := by
    cases e : (bAt s 0 == 48) with
    | false => rfl
    | true =>
      have : ¬ 1 < s.size := fun h => hz ⟨e, h⟩
      simp; omega
  have hB : l01B s = nOk s s.size := by unfold l01B; rw [hz'']; simp [h1, h9]
  cases e48 : (bAt s 0 == 48) <;> rw [e48] at hz' <;> simp only [Bool.false_and, Bool.true_and, decide_eq_false_iff_not] at hz'
  all_goals simp -dsimp -implicitDefEqProofs [c_spec_l01Number, r_spec_l01Number, h1, h9, h1', h9', i0, e48, hz']
  all_goals
    refine wpLoop_st (fun (i : Nat) => ⟨tl [(0, .str s), (4, .int .i64 (nV s i)), (5, .int .i64 i)], ⟨[]⟩⟩) (fun i => i ≤ s.size ∧ nOk s i = true) (fun i => s.size - i) 0 ⟨by omega, rfl⟩ (Sub.keep (by simp) (by simp [hsub]) (by simp [nV])) ?_
    rintro i ⟨hi, ho⟩
    simp -dsimp -implicitDefEqProofs
    refine brW_of (fun h => ?_) (fun h => ?_) <;> simp only [decide_eq_true_eq, decide_eq_false_iff_not] at h
    · have hx : i < s.size := by omega
      have hw := wrapNat (i := i) (by omega)
      have hg := idx_at s i hx
      have hb := bAt_in s i
      have hn := nV_in s i ho
      have hp9 : (10 : Int) ^ i ≤ 10 ^ 9 := by
        have : i ≤ 9 := by omega
        exact_mod_cast Nat.pow_le_pow_right (by decide) this
      cases hd : isDig (bAt s i) with
      | false =>
        have hf : l01B s = false := by rw [hB]; exact nOk_false hd s.size hx
        unfold isDig at hd
        by_cases c1 : 48 ≤ bAt s i
        · have c2 : 57 < bAt s i := by
            rw [decide_eq_true c1] at hd
            have := of_decide_eq_false (by simpa using hd : decide (bAt s i ≤ 57) = false)
            omega
          have c1' : ¬ bAt s i < 48 := by omega
          simp -dsimp -implicitDefEqProofs [hg, c1', c2, hf, l01V]
        · have c1' : bAt s i < 48 := by omega
          simp -dsimp -implicitDefEqProofs [hg, c1', hf, l01V]
      | true =>
        have hd' := hd
        unfold isDig at hd
        simp only [Bool.and_eq_true, decide_eq_true_eq] at hd
        have c1 : ¬ bAt s i < 48 := by omega
        have c2 : ¬ 57 < bAt s i := by omega
        have w1 : IntKind.wrap .i64 (nV s i * 10) = nV s i * 10 := wrapI64 (by omega) (by omega)
        have w2 : IntKind.wrap .u8 (bAt s i - 48) = bAt s i - 48 := by simp [IntKind.wrap, IntKind.signed, IntKind.bits]; omega
        have w3 : IntKind.wrap .i64 (bAt s i - 48) = bAt s i - 48 := wrapI64 (by omega) (by omega)
        have w4 : IntKind.wrap .i64 (nV s i * 10 + (bAt s i - 48)) = nV s i * 10 + (bAt s i - 48) := wrapI64 (by omega) (by omega)
        simp -dsimp -implicitDefEqProofs [hg, c1, c2, w1, w2, w3, w4, hw]
        exact .mk (i + 1) ⟨by omega, by rw [nOk, ho, hd']; rfl⟩ (by omega) (Sub.keep (by simp) (by simp [hsub]) (by simp [nV, hw]))
    · have : i = s.size := by omega
      subst this
      have hf : l01B s = true := by rw [hB]; exact ho
      simp -dsimp -implicitDefEqProofs [hf, l01V]
end Go.Proofs.YtgophedkejgedaaDoorAi
end

section
/- Bits of numbers; copies of cells over and over. -/
namespace Go.Proofs.YtgophedkejgedaaDoorAi
open Go Go.RowKit
set_option linter.unusedVariables false
set_option linter.unusedSimpArgs false

theorem ofNat_toNat (w n : Nat) : (BitVec.ofInt w (n : Int)).toNat = n % 2 ^ w := by
  rw [BitVec.toNat_ofInt]
  omega
theorem wrapU {k : IntKind} (hk : k.signed = false) {n : Int} (h0 : 0 ≤ n) (h1 : n < 2 ^ k.bits) : k.wrap n = n := by
  simp only [IntKind.wrap, hk, Bool.false_and]
  rw [Int.emod_eq_of_lt h0 h1]
  simp
theorem wrap32 {n : Int} (h0 : 0 ≤ n) (h1 : n < 4294967296) : IntKind.u32.wrap n = n := wrapU rfl h0 h1
theorem wrapU64 {n : Int} (h0 : 0 ≤ n) (h1 : n < 18446744073709551616) : IntKind.u64.wrap n = n := wrapU rfl h0 h1
theorem and32 {a b : Nat} (ha : a < 4294967296) (hb : b < 4294967296) : IntKind.u32.wrap (BitVec.ofInt IntKind.u32.bits (a : Int) &&& BitVec.ofInt IntKind.u32.bits (b : Int)).toNat = ((a &&& b : Nat) : Int) := by
  rw [BitVec.toNat_and, ofNat_toNat, ofNat_toNat]
  simp only [IntKind.bits]
  rw [Nat.mod_eq_of_lt (by omega), Nat.mod_eq_of_lt (by omega)]
  exact wrap32 (by omega) (by have : a &&& b ≤ a := Nat.and_le_left; omega)
theorem or32 {a b : Nat} (ha : a < 4294967296) (hb : b < 4294967296) : IntKind.u32.wrap (BitVec.ofInt IntKind.u32.bits (a : Int) ||| BitVec.ofInt IntKind.u32.bits (b : Int)).toNat = ((a ||| b : Nat) : Int) := by
  rw [BitVec.toNat_or, ofNat_toNat, ofNat_toNat]
  simp only [IntKind.bits]
  rw [Nat.mod_eq_of_lt (by omega), Nat.mod_eq_of_lt (by omega)]
  exact wrap32 (by omega) (by have := Nat.or_lt_two_pow (n := 32) (x := a) (y := b) (by omega) (by omega); omega)
theorem xor32 {a b : Nat} (ha : a < 4294967296) (hb : b < 4294967296) : IntKind.u32.wrap (BitVec.ofInt IntKind.u32.bits (a : Int) ^^^ BitVec.ofInt IntKind.u32.bits (b : Int)).toNat = ((a ^^^ b : Nat) : Int) := by
  rw [BitVec.toNat_xor, ofNat_toNat, ofNat_toNat]
  simp only [IntKind.bits]
  rw [Nat.mod_eq_of_lt (by omega), Nat.mod_eq_of_lt (by omega)]
  exact wrap32 (by omega) (by have := Nat.xor_lt_two_pow (n := 32) (x := a) (y := b) (by omega) (by omega); omega)
theorem andN32 {a b : Nat} (ha : a < 4294967296) (hb : b < 4294967296) : IntKind.u32.wrap (BitVec.ofInt IntKind.u32.bits (a : Int) &&& ~~~(BitVec.ofInt IntKind.u32.bits (b : Int))).toNat = ((a &&& (4294967295 - b) : Nat) : Int) := by
  rw [BitVec.toNat_and, BitVec.toNat_not, ofNat_toNat, ofNat_toNat]
  simp only [IntKind.bits]
  rw [Nat.mod_eq_of_lt (by omega), Nat.mod_eq_of_lt (by omega)]
  exact wrap32 (by omega) (by have : a &&& (2 ^ 32 - 1 - b) ≤ a := Nat.and_le_left; omega)
theorem mask64 {a : Int} (h0 : 0 ≤ a) (ha : a < 4294967296) : IntKind.u64.wrap (BitVec.ofInt IntKind.u64.bits a &&& BitVec.ofInt IntKind.u64.bits 4294967295).toNat = a := by
  obtain ⟨n, rfl⟩ := Int.eq_ofNat_of_zero_le h0
  have e : (4294967295 : Int) = ((4294967295 : Nat) : Int) := rfl
  rw [BitVec.toNat_and, e, ofNat_toNat, ofNat_toNat]
  simp only [IntKind.bits]
  rw [Nat.mod_eq_of_lt (by omega), Nat.mod_eq_of_lt (by omega)]
  have : n &&& 4294967295 = n := by
    have := Nat.and_two_pow_sub_one_eq_mod n 32
    rw [show 2 ^ 32 - 1 = 4294967295 from rfl] at this
    rw [this, Nat.mod_eq_of_lt (by omega)]
  rw [this]
  exact wrapU64 (by omega) (by omega)
theorem shr0 {a : Int} {n : Nat} (h0 : 0 ≤ a) (ha : a < 2 ^ n) : a.fdiv (2 ^ n) = 0 := by
  rw [Int.fdiv_eq_ediv_of_nonneg _ (by have : (0 : Int) < 2 ^ n := Int.pow_pos (by omega); omega)]
  exact Int.ediv_eq_zero_of_lt h0 ha

/-! ### cells over and over -/
def rep (k : Nat) (x : List AV) : List AV := (List.replicate k x).flatten
theorem rep_len (k : Nat) (x : List AV) : (rep k x).length = k * x.length := flat_len x k
theorem rep_add (k j : Nat) (x : List AV) : rep (k + j) x = rep k x ++ rep j x := by
  unfold rep
  rw [← List.replicate_append_replicate, List.flatten_append]
theorem rep_take (k j : Nat) (x : List AV) (h : j ≤ k) : (rep k x).take (j * x.length) = rep j x := by
  obtain ⟨d, rfl⟩ : ∃ d, k = j + d := ⟨k - j, by omega⟩
  rw [rep_add, List.take_append_of_le_length (by rw [rep_len]; exact Nat.le_refl _), ← rep_len j x, List.take_length]
theorem rep_drop (k j : Nat) (x : List AV) (h : j ≤ k) : (rep k x).drop (j * x.length) = rep (k - j) x := by
  obtain ⟨d, rfl⟩ : ∃ d, k = j + d := ⟨k - j, by omega⟩
  rw [rep_add, ← rep_len j x, List.drop_left, show j + d - j = d by omega]
theorem rep_one (x : List AV) : rep 1 x = x := by simp [rep]
theorem reps_lt {n : Nat} (k : Nat) {x : List AV} (h : ltL n x = true) : ltL n (rep k x) = true := newCells_lt 0 k h
theorem setCells_splice : ∀ (vs cs : List AV) (off : Nat), off + vs.length ≤ cs.length → setCells cs off vs = cs.take off ++ vs ++ cs.drop (off + vs.length)
  | [], cs, off, h => by simp [setCells]
  | v :: vs, cs, off, h => by
    simp only [List.length_cons] at h
    rw [setCells, setCells_splice vs _ (off + 1) (by simp; omega)]
    rw [List.take_add_one, List.getElem?_set_self (by omega), List.take_set_of_le (Nat.le_refl _), List.drop_set_of_lt (by omega)]
    simp only [Option.toList_some, List.append_assoc, List.singleton_append, List.length_cons]
    rw [show off + 1 + vs.length = off + (vs.length + 1) by omega]
theorem rep_step {e N k j : Nat} {x z : List AV} (hx : x.length = e) (hz : z.length = e) (hk : k + j ≤ N) :
    setCells (rep k x ++ rep (N - k) z) (k * e) (rep j x) = rep (k + j) x ++ rep (N - (k + j)) z := by
  have l1 : (rep k x).length = k * e := by rw [rep_len, hx]
  have l2 : (rep j x).length = j * e := by rw [rep_len, hx]
  have l3 : (rep (N - k) z).length = (N - k) * e := by rw [rep_len, hz]
  have hle : k * e + j * e ≤ k * e + (N - k) * e := by
    have : j * e ≤ (N - k) * e := Nat.mul_le_mul_right _ (by omega)
    omega
  rw [setCells_splice _ _ _ (by rw [List.length_append, l1, l2, l3]; exact hle), ← l1, List.take_left, List.drop_append, l1, l2, show k * e + j * e - k * e = j * e by omega, List.drop_of_length_le (by rw [l1]; omega), rep_add]
  rw [show j * e = j * z.length by rw [hz], rep_drop _ _ _ (by omega), show N - k - j = N - (k + j) by omega]
  simp
theorem rep_pre {e N k j : Nat} {x z : List AV} (hx : x.length = e) (hj : j ≤ k) : (List.take (k * e) (rep k x ++ rep (N - k) z)).take (j * e) = rep j x := by
  have l1 : (rep k x).length = k * e := by rw [rep_len, hx]
  rw [← l1, List.take_left, ← hx, rep_take _ _ _ hj]
theorem reps_all {e N k : Nat} {x z : List AV} (hx : x.length = e) (hz : z.length = e) (hk : k ≤ N) : (rep k x ++ rep (N - k) z).length = N * e := by
  rw [List.length_append, rep_len, rep_len, hx, hz, ← Nat.add_mul, show k + (N - k) = N by omega]
theorem rep_zero (x : List AV) : rep 0 x = [] := by simp [rep]

end Go.Proofs.YtgophedkejgedaaDoorAi
end

section
/- Cells of lists of data. -/
namespace Go.Proofs.YtgophedkejgedaaDoorAi
open Go Go.RowKit
set_option linter.unusedVariables false
set_option linter.unusedSimpArgs false
set_option linter.unusedSectionVars false

/-- Data that take so many plain cells. -/
class Plain {α : Type} (f : α → AV) (e : outParam Nat) : Prop where
  len : ∀ x, (f x).cells.length = e
  pos : 0 < e
  low : ∀ x, ltL 0 (f x).cells = true
  flat : ∀ x, flatL (f x).cells = true
  loose : ∀ x, looseL (f x).cells = (f x).cells
  elem : ∀ x r, elemA e ((f x).cells ++ r) = f x
instance : Plain frA 2 := ⟨fun _ => rfl, by omega, fun _ => rfl, fun _ => rfl, fun _ => rfl, fun _ _ => rfl⟩
instance : Plain grA 2 := ⟨fun _ => rfl, by omega, fun _ => rfl, fun _ => rfl, fun _ => rfl, fun _ _ => rfl⟩
instance : Plain flA 3 := ⟨fun _ => rfl, by omega, fun _ => rfl, fun _ => rfl, fun _ => rfl, fun _ _ => rfl⟩
instance : Plain inA 1 := ⟨fun _ => rfl, by omega, fun _ => rfl, fun _ => rfl, fun _ => rfl, fun _ _ => rfl⟩

def flatA (xs : List AV) : List AV := xs.flatMap AV.cells
section
variable {α : Type} {f : α → AV} {e : Nat} [hP : Plain f e]
include hP
theorem flatA_mem (l : List α) : ∀ x ∈ mapA f l, x.cells.length = e := by
  intro x hx
  obtain ⟨a, _, rfl⟩ := List.mem_map.1 hx
  exact hP.len a
@[simp] theorem flatA_len (l : List α) : (flatA (mapA f l)).length = l.length * e := by
  unfold flatA
  rw [flatMap_len e _ (flatA_mem l), mapA_length]
theorem flatA_at (l : List α) (k : Nat) : (flatA (mapA f l))[k]? = (l[k / e]?).bind fun x => (f x).cells[k % e]? := by
  unfold flatA
  rw [flatMap_get e _ k (flatA_mem l) hP.pos, mapA_get]
  cases l[k / e]? <;> rfl
theorem flatA_get (l : List α) (i j : Nat) (hj : j < e) : (flatA (mapA f l))[i * e + j]? = (l[i]?).bind fun x => (f x).cells[j]? := by
  rw [flatA_at, Nat.mul_comm, Nat.mul_add_div hP.pos, Nat.div_eq_of_lt hj, Nat.add_zero, Nat.mul_add_mod, Nat.mod_eq_of_lt hj]
omit hP in
theorem flatA_append (l k : List α) : flatA (mapA f (l ++ k)) = flatA (mapA f l) ++ flatA (mapA f k) := by simp [flatA, mapA]
omit hP in
theorem flatA_one (x : α) : flatA (mapA f [x]) = (f x).cells := by simp [flatA, mapA]
omit hP in
@[simp] theorem flatA_nil : flatA (mapA f []) = [] := rfl
omit hP in
theorem flatA_cons (x : α) (l : List α) : flatA (mapA f (x :: l)) = (f x).cells ++ flatA (mapA f l) := by simp [flatA, mapA]
theorem flatA_take (l : List α) (k : Nat) : (flatA (mapA f l)).take (k * e) = flatA (mapA f (l.take k)) := by
  rcases Nat.le_total k l.length with h | h
  · conv => lhs; rw [← List.take_append_drop k l]
    rw [flatA_append, List.take_left' (by rw [flatA_len, List.length_take, Nat.min_eq_left h])]
  · rw [List.take_of_length_le (by rw [flatA_len]; exact Nat.mul_le_mul_right _ h), List.take_of_length_le h]
theorem flatA_drop (l : List α) (k : Nat) : (flatA (mapA f l)).drop (k * e) = flatA (mapA f (l.drop k)) := by
  rcases Nat.le_total k l.length with h | h
  · conv => lhs; rw [← List.take_append_drop k l]
    rw [flatA_append, List.drop_left' (by rw [flatA_len, List.length_take, Nat.min_eq_left h])]
  · rw [List.drop_of_length_le (by rw [flatA_len]; exact Nat.mul_le_mul_right _ h), List.drop_of_length_le h]; rfl
theorem flatA_lt (n : Nat) : ∀ l : List α, ltL n (flatA (mapA f l)) = true
  | [] => rfl
  | x :: l => by rw [flatA_cons, ltL_append, flatA_lt n l, ltL_mono (Nat.zero_le n) _ (hP.low x)]; rfl
theorem flatA_flat : ∀ l : List α, flatL (flatA (mapA f l)) = true
  | [] => rfl
  | x :: l => by
    rw [flatA_cons]
    have : ∀ a b : List AV, flatL a = true → flatL b = true → flatL (a ++ b) = true := by
      intro a b ha hb
      induction a with
      | nil => exact hb
      | cons y a ih =>
        simp only [List.cons_append, flatL, Bool.and_eq_true] at *
        exact ⟨ha.1, ih ha.2⟩
    exact this _ _ (hP.flat x) (flatA_flat l)
theorem flatA_loose : ∀ l : List α, looseL (flatA (mapA f l)) = flatA (mapA f l)
  | [] => rfl
  | x :: l => by
    rw [flatA_cons, looseL_map, List.map_append, ← looseL_map, ← looseL_map, hP.loose, flatA_loose l]
theorem flatA_ren (g : Nat → Nat) (l : List α) : renL g (flatA (mapA f l)) = flatA (mapA f l) := renL_low _ _ (flatA_lt 0 l)
theorem flatA_gath : ∀ (l : List α) (n : Nat), n = l.length → gath e n (flatA (mapA f l)) = mapA f l
  | [], n, h => by subst h; rfl
  | x :: l, n, h => by
    subst h
    rw [List.length_cons, gath, flatA_cons, hP.elem, List.drop_left' (hP.len x), flatA_gath l _ rfl]
    rfl
theorem flatA_set (l : List α) (i : Nat) (x : α) (hi : i < l.length) : setCells (flatA (mapA f l)) (i * e) (f x).cells = flatA (mapA f (l.set i x)) := by
  have h1 : (i + 1) * e ≤ l.length * e := Nat.mul_le_mul_right _ hi
  rw [Nat.add_mul, Nat.one_mul] at h1
  rw [setCells_splice _ _ _ (by rw [flatA_len, hP.len]; exact h1), hP.len, flatA_take, show i * e + e = (i + 1) * e by rw [Nat.add_mul, Nat.one_mul], flatA_drop, ← flatA_one x, ← flatA_append, ← flatA_append, List.set_eq_take_append_cons_drop, if_pos hi]
  simp
omit hP in
theorem flatA_rep (n : Nat) (x : α) : (List.replicate n (f x).cells).flatten = flatA (mapA f (List.replicate n x)) := by
  induction n with
  | zero => rfl
  | succ n ih => rw [List.replicate_succ, List.flatten_cons, ih, List.replicate_succ, flatA_cons]
end
@[simp] theorem flatA_nms {α : Type} {f : α → AV} {e : Nat} [Plain f e] (l : List α) : nmsL (flatA (mapA f l)) = [] := nmsL_low _ (flatA_lt 0 l)
attribute [simp] flatA_lt flatA_flat flatA_loose flatA_ren
@[simp] theorem all_plain {α : Type} {f : α → AV} {e : Nat} [hP : Plain f e] (l : List α) : (mapA f l).all (fun x => x.cells.length == e) = true := by
  rw [List.all_eq_true]
  intro x hx
  exact beq_iff_eq.2 (flatA_mem l x hx)
@[simp] theorem fm_plain {α : Type} {f : α → AV} {e : Nat} [hP : Plain f e] (l : List α) : (mapA f l).flatMap AV.cells = flatA (mapA f l) := rfl
@[simp 2000] theorem sliceCells_plain {α : Type} {f : α → AV} {e : Nat} [hP : Plain f e] (A : AHeap) (l : List α) (t : Bool) : sliceCells A e (.sl (mapA f l) t) = some (flatA (mapA f l)) := by
  show (if ((mapA f l).all fun x => x.cells.length == e) = true then some (List.flatMap AV.cells (mapA f l)) else none) = _
  rw [if_pos (all_plain l)]
  rfl
@[simp 2000] theorem sliceA_plain {α : Type} {f : α → AV} {e : Nat} [hP : Plain f e] (l : List α) (t : Bool) (lo hi : Nat) (mx : Option Nat) : sliceA e (.sl (mapA f l) t) lo hi mx = if lo ≤ hi ∧ hi ≤ l.length ∧ maxOk hi l.length mx = true then some (.sl (mapA f ((l.take hi).drop lo)) (maxTight hi l.length t mx)) else none := by
  have h1 := all_plain (f := f) (e := e) l
  unfold sliceA
  dsimp only
  rw [mapA_length]
  by_cases c : lo ≤ hi ∧ hi ≤ l.length ∧ maxOk hi l.length mx = true
  · rw [if_pos ⟨c.1, c.2.1, c.2.2, h1⟩, if_pos c]
    simp [mapA, List.map_drop, List.map_take]
  · rw [if_neg (fun h => c ⟨h.1, h.2.1, h.2.2.1⟩), if_neg c]
@[simp] theorem gath_fr (l : List Fr) (n : Nat) (h : n = l.length) : gath 2 n (flatA (mapA frA l)) = mapA frA l := flatA_gath l n h
@[simp] theorem gath_gr (l : List Gr) (n : Nat) (h : n = l.length) : gath 2 n (flatA (mapA grA l)) = mapA grA l := flatA_gath l n h
@[simp] theorem gath_fl (l : List Fl) (n : Nat) (h : n = l.length) : gath 3 n (flatA (mapA flA l)) = mapA flA l := flatA_gath l n h
@[simp] theorem gath_in (l : List Int) (n : Nat) (h : n = l.length) : gath 1 n (flatA (mapA inA l)) = mapA inA l := flatA_gath l n h
@[simp] theorem news_fr (n : Nat) (p q : Int) : (List.replicate n [.int .i64 p, .int .i64 q]).flatten = flatA (mapA frA (List.replicate n ⟨p, q⟩)) := flatA_rep (f := frA) n ⟨p, q⟩
@[simp] theorem news_gr (n : Nat) (p q : Int) : (List.replicate n [.int .i64 p, .int .u32 q]).flatten = flatA (mapA grA (List.replicate n ⟨p, q⟩)) := flatA_rep (f := grA) n ⟨p, q⟩
@[simp] theorem news_fl (n : Nat) (m p q : Int) : (List.replicate n [.int .i64 m, .int .i64 p, .int .u32 q]).flatten = flatA (mapA flA (List.replicate n ⟨m, p, q⟩)) := flatA_rep (f := flA) n ⟨m, p, q⟩
@[simp] theorem news_in (n : Nat) (p : Int) : (List.replicate n [.int .i64 p]).flatten = flatA (mapA inA (List.replicate n p)) := flatA_rep (f := inA) n p
theorem set_fr (l : List Fr) (i : Nat) (p q : Int) (h : i < l.length) : ((flatA (mapA frA l)).set (i * 2) (.int .i64 p)).set (i * 2 + 1) (.int .i64 q) = flatA (mapA frA (l.set i ⟨p, q⟩)) := flatA_set (f := frA) l i ⟨p, q⟩ h
theorem set_gr (l : List Gr) (i : Nat) (p q : Int) (h : i < l.length) : ((flatA (mapA grA l)).set (i * 2) (.int .i64 p)).set (i * 2 + 1) (.int .u32 q) = flatA (mapA grA (l.set i ⟨p, q⟩)) := flatA_set (f := grA) l i ⟨p, q⟩ h
theorem set_fl (l : List Fl) (i : Nat) (m p q : Int) (h : i < l.length) : (((flatA (mapA flA l)).set (i * 3) (.int .i64 m)).set (i * 3 + 1) (.int .i64 p)).set (i * 3 + 1 + 1) (.int .u32 q) = flatA (mapA flA (l.set i ⟨m, p, q⟩)) := flatA_set (f := flA) l i ⟨m, p, q⟩ h
theorem set_in (l : List Int) (i : Nat) (p : Int) (h : i < l.length) : (flatA (mapA inA l)).set i (.int .i64 p) = flatA (mapA inA (l.set i p)) := by
  have := flatA_set (f := inA) l i p h
  rw [Nat.mul_one] at this
  exact this
theorem get_fr0 (l : List Fr) (i : Nat) (h : i < l.length) : (flatA (mapA frA l))[i * 2]? = some (.int .i64 l[i].p) := by
  have := flatA_get (f := frA) l i 0 (by omega)
  rw [Nat.add_zero] at this
  rw [this]; simp [h]
theorem get_fr1 (l : List Fr) (i : Nat) (h : i < l.length) : (flatA (mapA frA l))[i * 2 + 1]? = some (.int .i64 l[i].q) := by
  rw [flatA_get (f := frA) l i 1 (by omega)]; simp [h]
theorem get_gr0 (l : List Gr) (i : Nat) (h : i < l.length) : (flatA (mapA grA l))[i * 2]? = some (.int .i64 l[i].n) := by
  have := flatA_get (f := grA) l i 0 (by omega)
  rw [Nat.add_zero] at this
  rw [this]; simp [h]
theorem get_gr1 (l : List Gr) (i : Nat) (h : i < l.length) : (flatA (mapA grA l))[i * 2 + 1]? = some (.int .u32 l[i].e) := by
  rw [flatA_get (f := grA) l i 1 (by omega)]; simp [h]
theorem get_in (l : List Int) (i : Nat) (h : i < l.length) : (flatA (mapA inA l))[i]? = some (.int .i64 l[i]) := by
  have := flatA_get (f := inA) l i 0 (by omega)
  rw [Nat.add_zero, Nat.mul_one] at this
  rw [this]; simp [h]
theorem flatA_cells (x : Fr) : flatA [frA x] = [.int .i64 x.p, .int .i64 x.q] := rfl

/-! ### marks -/
def marksF : Nat → Int → List Fr
  | 0, _ => []
  | n + 1, k => ⟨k, k + 1⟩ :: marksF n (k + 2)
@[simp] theorem marksF_len : ∀ (n : Nat) (k : Int), (marksF n k).length = n
  | 0, _ => rfl
  | n + 1, k => by simp [marksF, marksF_len n]
theorem marksF_get : ∀ (n : Nat) (k : Int) (i : Nat) (h : i < (marksF n k).length), (marksF n k)[i] = ⟨k + 2 * i, k + 2 * i + 1⟩
  | 0, _, i, h => by simp [marksF] at h
  | n + 1, k, 0, h => by simp [marksF]
  | n + 1, k, i + 1, h => by
    simp only [marksF, List.getElem_cons_succ]
    rw [marksF_get n (k + 2) i]
    simp only [Fr.mk.injEq]
    omega
@[simp] theorem marksF_inj (n n' : Nat) (k k' : Int) : marksF n k = marksF n' k' ↔ n = n' ∧ (n = 0 ∨ k = k') := by
  constructor
  · intro h
    have hn : n = n' := by have := congrArg List.length h; simpa using this
    subst hn
    refine ⟨rfl, ?_⟩
    cases n with
    | zero => exact .inl rfl
    | succ n =>
      simp only [marksF, List.cons.injEq, Fr.mk.injEq] at h
      exact .inr h.1.1
  · rintro ⟨rfl, rfl | rfl⟩ <;> rfl
theorem marks_start (l : List Fr) (k : Int) : l = (marksF l.length k).take 0 ++ l.drop 0 := by simp
theorem marks_step (l : List Fr) (k : Int) (i : Nat) (h : i < l.length) : ((marksF l.length k).take i ++ l.drop i).set i ⟨k + 2 * i, k + 2 * i + 1⟩ = (marksF l.length k).take (i + 1) ++ l.drop (i + 1) := by
  rw [List.set_append_right _ _ (by simp; omega)]
  have e : i - ((marksF l.length k).take i).length = 0 := by simp; omega
  rw [e, List.drop_eq_getElem_cons h, List.set_cons_zero, take_snoc _ i (by simpa using h), marksF_get, List.append_assoc]
  rfl
theorem marks_end (l : List Fr) (k : Int) : (marksF l.length k).take l.length ++ l.drop l.length = marksF l.length k := by
  simp [List.take_of_length_le]

end Go.Proofs.YtgophedkejgedaaDoorAi
end

section
/- MADE BY PROGRAM (wip/tools/gen.py): the abstract code of functions. -/
namespace Go.Proofs.YtgophedkejgedaaDoorAi
open Go AC AOp Opd
set_option linter.unusedVariables false
set_option maxRecDepth 100000
def c_impl_bit : AC := seq (reg [⟨(some 4), mv (c (.int .u32 0)), none⟩]) (seq (seq (reg [⟨(some 5), mv (t 0), none⟩, ⟨(some 6), mv (t 1), none⟩, ⟨(some 7), bin .gtr (t 5) (t 6), none⟩]) (cond (t 7) (reg [⟨(some 8), mv (t 1), none⟩, ⟨(some 9), mv (t 0), none⟩, ⟨(some 0), mv (t 8), none⟩, ⟨(some 1), mv (t 9), none⟩]) (skip))) (seq (reg [⟨(some 10), mv (t 1), none⟩, ⟨(some 11), callq (c (.fn 90 [])) [t 10], none⟩, ⟨(some 12), mv (t 0), none⟩, ⟨(some 13), bin .add (t 11) (t 12), none⟩, ⟨(some 14), bin .shl (c (.int .u32 1)) (t 13), none⟩, ⟨(some 4), mv (t 14), none⟩]) (ret)))
def r_impl_bit : List ARes := [.tmp 4]
theorem k_impl_bit : acLin Go.Proofs.Tryd.prog 86 2 (inQ [90] []) [] = some (c_impl_bit, r_impl_bit) := by kernel_rfl
def c_impl_made : AC := seq (reg [⟨(some 4), alloc [.int .i64 0, .int .u32 0], none⟩]) (seq (reg [⟨(some 8), mv (t 0), none⟩, ⟨(some 9), bld [.int .i64 0, .int .u32 0] [(0, 1, t 8)], none⟩, ⟨(some 5), alloc [.int .i64 0, .int .u32 0], none⟩, ⟨none, st (t 5) 2 (t 9), none⟩]) (seq (seq (reg [⟨(some 10), mv (t 0), none⟩, ⟨(some 11), mv (c (.int .i64 0)), none⟩]) (block 0 (loop (seq (reg [⟨(some 12), bin .lss (t 11) (t 10), none⟩]) (seq (cond (t 12) (skip) (exit 0)) (seq (block 1 (seq (reg [⟨(some 13), mv (t 11), none⟩, ⟨(some 6), mv (t 13), none⟩]) (seq (reg [⟨(some 14), mv (t 6), none⟩, ⟨(some 15), mv (c (.int .i64 0)), none⟩]) (block 2 (loop (seq (reg [⟨(some 16), bin .lss (t 15) (t 14), none⟩]) (seq (cond (t 16) (skip) (exit 2)) (seq (block 3 (seq (reg [⟨(some 17), mv (t 15), none⟩, ⟨(some 7), mv (t 17), none⟩]) (seq (reg [⟨(some 18), mv (t 1), none⟩, ⟨(some 19), mv (t 7), none⟩, ⟨(some 20), mv (t 6), none⟩, ⟨(some 21), call (t 18) [t 19, t 20], none⟩]) (cond (t 21) (reg [⟨(some 22), fad (t 5) 1, none⟩, ⟨(some 23), ld (t 22) 1 false, none⟩, ⟨(some 24), mv (t 7), none⟩, ⟨(some 25), mv (t 6), none⟩, ⟨(some 26), callq (c (.fn 86 [])) [t 24, t 25], none⟩, ⟨(some 27), bin .or (t 23) (t 26), none⟩, ⟨(some 28), fad (t 5) 1, none⟩, ⟨none, st (t 28) 1 (t 27), none⟩]) (skip))))) (reg [⟨(some 29), bin .add (t 15) (c (.int .i64 1)), none⟩, ⟨(some 15), mv (t 29), none⟩]))))))))) (reg [⟨(some 30), bin .add (t 11) (c (.int .i64 1)), none⟩, ⟨(some 11), mv (t 30), none⟩]))))))) (seq (reg [⟨(some 31), ld (t 5) 2 true, none⟩, ⟨none, st (t 4) 2 (t 31), none⟩]) (ret))))
def r_impl_made : List ARes := [.cell 4 2 true]
theorem k_impl_made : acLin Go.Proofs.Tryd.prog 126 2 (inQ [86] []) [⟨false, none, [], [], none⟩, ⟨false, none, [], [], none⟩, ⟨false, none, [], [], none⟩, ⟨false, none, [], [], none⟩, ⟨false, none, [], [], none⟩, ⟨false, none, [], [], none⟩, ⟨false, none, [], [], none⟩, ⟨false, none, [], [], none⟩, ⟨false, none, [], [], none⟩, ⟨false, none, [], [], none⟩, ⟨false, none, [], [], none⟩, ⟨false, some [0, 1, 2, 3, 4, 5, 6, 7], [], [], none⟩] = some (c_impl_made, r_impl_made) := by kernel_rfl
end Go.Proofs.YtgophedkejgedaaDoorAi
end

section
/- Contracts: products of words; cells over and over; patterns of equal parts. -/
namespace Go.Proofs.YtgophedkejgedaaDoorAi
open Go Go.RowKit
set_option linter.unusedVariables false
set_option linter.unusedSimpArgs false
set_option maxRecDepth 20000

theorem mask64n {a : Int} (h0 : 0 ≤ a) (ha : a < 4294967296) : IntKind.u64.wrap ((a % 2 ^ IntKind.u64.bits).toNat &&& 4294967295 % 2 ^ IntKind.u64.bits : Nat) = a := by
  have h := mask64 h0 ha
  rw [BitVec.toNat_and, BitVec.toNat_ofInt, BitVec.toNat_ofInt] at h
  exact h
theorem mask64z : IntKind.u64.wrap ((0 % 2 ^ IntKind.u64.bits : Int).toNat &&& 4294967295 % 2 ^ IntKind.u64.bits : Nat) = 0 := mask64n (by omega) (by omega)
theorem shr64 {a : Int} (h0 : 0 ≤ a) (ha : a < 4294967296) : a.fdiv (2 ^ min 32 IntKind.u64.bits) = 0 := shr0 (n := 32) h0 ha
theorem wrap0 : IntKind.u64.wrap 0 = 0 := rfl
noncomputable def sp_Mul64 : List AV → Option (AV) := pf (ι := (Int) × (Int)) (α := AV) (fun ⟨a, b⟩ => (0 ≤ a ∧ a < 65536) ∧ (0 ≤ b ∧ b < 65536)) (fun ⟨a, b⟩ => [.int .u64 a, .int .u64 b]) (fun ⟨a, b⟩ => .tup [.int .u64 0, .int .u64 (a * b)])
theorem sp_Mul64_eq (a b : Int) (h : (0 ≤ a ∧ a < 65536) ∧ (0 ≤ b ∧ b < 65536)) : sp_Mul64 [.int .u64 a, .int .u64 b] = some (.tup [.int .u64 0, .int .u64 (a * b)]) := by
  unfold sp_Mul64
  exact pf_eq (ι := (Int) × (Int)) (α := AV) (a, b) h (by rintro ⟨a', b'⟩ _ e; simp_all [Int.natCast_inj])
theorem reps_fr (n : Nat) (p q : Int) : rep n [.int .i64 p, .int .i64 q] = flatA (frsA (List.replicate n ⟨p, q⟩)) := news_fr n p q
noncomputable def sp_repeatF : List AV → List AV → Option (AV × List (Option (List AV))) := pb (pf (ι := (Int) × (Int) × (Int)) (α := AV × List (Option (List AV))) (fun ⟨p, q, n⟩ => 1 ≤ n ∧ n < 65536) (fun i => .agg ((fun ⟨p, q, n⟩ => [.int .i64 p, .int .i64 q] : (Int) × (Int) × (Int) → List AV) i) :: (fun ⟨p, q, n⟩ => [.ref 0 2 0 1 .tight, .int .i64 n] : (Int) × (Int) × (Int) → List AV) i) (fun ⟨p, q, n⟩ => (.ref 1 2 0 n.toNat .tight, [some [.int .i64 p, .int .i64 q], some (flatA (frsA (List.replicate n.toNat ⟨p, q⟩)))])))
theorem sp_repeatF_eq (p q n : Int) (h : 1 ≤ n ∧ n < 65536) : sp_repeatF [.int .i64 p, .int .i64 q] [.ref 0 2 0 1 .tight, .int .i64 n] = some (.ref 1 2 0 n.toNat .tight, [some [.int .i64 p, .int .i64 q], some (flatA (frsA (List.replicate n.toNat ⟨p, q⟩)))]) := by
  unfold sp_repeatF pb
  exact pf_eq (ι := (Int) × (Int) × (Int)) (α := AV × List (Option (List AV))) (p, q, n) h (by rintro ⟨p', q', n'⟩ _ e; simp_all [Int.natCast_inj])
theorem low1 {n : Int} (h : 1 ≤ n ∧ n ≤ 4) : lowP 1 n = 1 ∧ lowQ 1 n = n := by
  have h5 : n = 1 ∨ n = 2 ∨ n = 3 ∨ n = 4 := by omega
  rcases h5 with rfl | rfl | rfl | rfl <;> decide
def evenL (n : Int) : List Fr := List.replicate n.toNat ⟨1, n⟩
noncomputable def sp_even : List AV → Option (AV × List (Option (List AV))) := pf (ι := (Int) × (Int) × (Int)) (α := AV × List (Option (List AV))) (fun ⟨n, e, l⟩ => 1 ≤ n ∧ n ≤ 4) (fun ⟨n, e, l⟩ => [.agg [.int .i64 n, .int .u32 e], .int .u32 l]) (fun ⟨n, e, l⟩ => (.agg [.int .i64 n, .int .u32 e, .int .u32 l, .ref 0 2 0 n.toNat .tight], [some (flatA (frsA (evenL n)))]))
theorem sp_even_eq (n e l : Int) (h : 1 ≤ n ∧ n ≤ 4) : sp_even [.agg [.int .i64 n, .int .u32 e], .int .u32 l] = some ((.agg [.int .i64 n, .int .u32 e, .int .u32 l, .ref 0 2 0 n.toNat .tight], [some (flatA (frsA (evenL n)))])) := by
  unfold sp_even
  exact pf_eq (ι := (Int) × (Int) × (Int)) (α := AV × List (Option (List AV))) (n, e, l) h (by rintro ⟨n', e', l'⟩ _ e; simp_all [Int.natCast_inj])
end Go.Proofs.YtgophedkejgedaaDoorAi
end

section
/- Contracts: patterns of equal weights. -/
namespace Go.Proofs.YtgophedkejgedaaDoorAi
open Go Go.RowKit
set_option linter.unusedVariables false
set_option linter.unusedSimpArgs false
set_option maxRecDepth 20000

def noPat (c : Int) : AV := .tup [.agg [.int .i64 0, .int .u32 0, .int .u32 0, .sl [] true], .int .i64 c]
def evenR (t : Cp) (n e l : Int) : AV × List (Option (List AV)) :=
  if graphOk n e = false then (noPat 1, []) else if loopsOk n l = false then (noPat 2, [])
  else (.tup [.agg [.int .i64 n, .int .u32 e, .int .u32 l, .ref 0 2 0 n.toNat t], .int .i64 0], [some (flatA (frsA (evenL n)))])
theorem loops_n {n l : Int} (h : loopsOk n l = true) : 1 ≤ n ∧ n ≤ 4 := (of_decide_eq_true h).1
noncomputable def sp_evenI : List AV → Option (AV × List (Option (List AV))) := pf (ι := (Int) × (Int) × (Int)) (α := AV × List (Option (List AV))) (fun ⟨n, e, l⟩ => (0 ≤ e ∧ e ≤ 4294967295) ∧ (0 ≤ l ∧ l ≤ 4294967295)) (fun ⟨n, e, l⟩ => [.agg [.int .i64 n, .int .u32 e], .int .u32 l]) (fun ⟨n, e, l⟩ => evenR .tight n e l)
theorem sp_evenI_eq (n e l : Int) (h : (0 ≤ e ∧ e ≤ 4294967295) ∧ (0 ≤ l ∧ l ≤ 4294967295)) : sp_evenI [.agg [.int .i64 n, .int .u32 e], .int .u32 l] = some (evenR .tight n e l) := by
  unfold sp_evenI
  exact pf_eq (ι := (Int) × (Int) × (Int)) (α := AV × List (Option (List AV))) (n, e, l) h (by rintro ⟨n', e', l'⟩ _ e; simp_all [Int.natCast_inj])
noncomputable def sp_evenS : List AV → Option (AV × List (Option (List AV))) := pf (ι := (Int) × (Int) × (Int)) (α := AV × List (Option (List AV))) (fun ⟨n, e, l⟩ => (0 ≤ e ∧ e ≤ 4294967295) ∧ (0 ≤ l ∧ l ≤ 4294967295)) (fun ⟨n, e, l⟩ => [.agg [.int .i64 n, .int .u32 e], .int .u32 l]) (fun ⟨n, e, l⟩ => evenR .full n e l)
theorem sp_evenS_eq (n e l : Int) (h : (0 ≤ e ∧ e ≤ 4294967295) ∧ (0 ≤ l ∧ l ≤ 4294967295)) : sp_evenS [.agg [.int .i64 n, .int .u32 e], .int .u32 l] = some (evenR .full n e l) := by
  unfold sp_evenS
  exact pf_eq (ι := (Int) × (Int) × (Int)) (α := AV × List (Option (List AV))) (n, e, l) h (by rintro ⟨n', e', l'⟩ _ e; simp_all [Int.natCast_inj])
def evSt (n e l : Int) : Nat → St
  | 0 => ⟨tl [(2, .ptr 0 0), (4, .ptr 1 0), (5, .int .i64 0), (6, .ptr 2 0), (7, .int .i64 0)], ⟨[some [.int .i64 n, .int .u32 e], some [.int .i64 0, .int .u32 0, .int .u32 0, .sl [] true], some [.int .i64 n, .int .u32 e, .int .u32 l, .sl [] true]]⟩⟩
  | i + 1 => ⟨tl [(2, .ptr 0 0), (4, .ptr 1 0), (5, .int .i64 0), (6, .ptr 2 0), (7, .int .i64 (i + 1 : Nat))], ⟨[some [.int .i64 n, .int .u32 e], some [.int .i64 0, .int .u32 0, .int .u32 0, .sl [] true], some [.int .i64 n, .int .u32 e, .int .u32 l, .ref 3 2 0 (i + 1) .full], some (flatA (frsA (List.replicate (i + 1) ⟨1, n⟩)))]⟩⟩
theorem reps_snoc (k : Nat) (x : Fr) : flatA (frsA (List.replicate k x)) ++ [.int .i64 x.p, .int .i64 x.q] = flatA (frsA (List.replicate (k + 1) x)) := by
  rw [List.replicate_succ', flatA_append]; rfl
end Go.Proofs.YtgophedkejgedaaDoorAi
end

section
/- Contracts: bits of edges; graphs that are made. -/
namespace Go.Proofs.YtgophedkejgedaaDoorAi
open Go Go.RowKit
set_option linter.unusedVariables false
set_option linter.unusedSimpArgs false
set_option maxRecDepth 20000
variable {P : Program}

def bitI (i j : Nat) : Nat := if i < j then j * (j - 1) / 2 + i else i * (i - 1) / 2 + j
noncomputable def sp_bit : List AV → Option (AV) := pf (ι := (Int) × (Int)) (α := AV) (fun ⟨i, j⟩ => (0 ≤ i ∧ i ≤ 5) ∧ (0 ≤ j ∧ j ≤ 5)) (fun ⟨i, j⟩ => [.int .i64 i, .int .i64 j]) (fun ⟨i, j⟩ => .int .u32 (2 ^ bitI i.toNat j.toNat))
theorem sp_bit_eq (i j : Int) (h : (0 ≤ i ∧ i ≤ 5) ∧ (0 ≤ j ∧ j ≤ 5)) : sp_bit [.int .i64 i, .int .i64 j] = some (.int .u32 (2 ^ bitI i.toNat j.toNat)) := by
  unfold sp_bit
  exact pf_eq (ι := (Int) × (Int)) (α := AV) (i, j) h (by rintro ⟨i', j'⟩ _ e; simp_all [Int.natCast_inj])
theorem q_impl_bit : QP PP 86 sp_bit := by
  refine QP_pf (fun i h => ?_) fun i h => ?_
  · obtain ⟨i, j⟩ := i; exact ⟨by first | rfl | simp, by first | rfl | simp⟩
  obtain ⟨i, j⟩ := i
  replace h : (0 ≤ i ∧ i ≤ 5) ∧ (0 ≤ j ∧ j ≤ 5) := h
  refine P_code (Quiet.q1 q_impl_pairs Quiet.nil) hmix k_impl_bit rfl ?_ ?_
  · first | rfl | simp
  show wpc 0 PP _ c_impl_bit (initSt [.int .i64 i, .int .i64 j] .nil) (endP r_impl_bit (.int .u32 (2 ^ bitI i.toNat j.toNat)))
  obtain ⟨⟨i0, i1⟩, j0, j1⟩ := h
  have hj : j = 0 ∨ j = 1 ∨ j = 2 ∨ j = 3 ∨ j = 4 ∨ j = 5 := by omega
  have hi : i = 0 ∨ i = 1 ∨ i = 2 ∨ i = 3 ∨ i = 4 ∨ i = 5 := by omega
  rcases hi with rfl | rfl | rfl | rfl | rfl | rfl <;> rcases hj with rfl | rfl | rfl | rfl | rfl | rfl <;> simp -dsimp -implicitDefEqProofs [c_impl_bit, r_impl_bit, sp_pairs_eq, pI0, pI1, pI2, pI3, pI4, pI5, bitI, IntKind.wrap, IntKind.bits, IntKind.signed]
/-! ### a call that sees some objects, of which nothing is known here -/
def ClosedH (os : List (Option (List AV))) : Prop := ∀ b cs, hget os b = some cs → ltL os.length cs = true
theorem hset_pre (os r : List (Option (List AV))) (i : Nat) (x : Option (List AV)) : hset (os ++ r) (os.length + i) x = os ++ hset r i x := by
  induction os with
  | nil => simp
  | cons o os ih =>
    simp only [List.cons_append, List.length_cons, hset]
    rw [if_neg (by omega), show os.length + 1 + i - 1 = os.length + i by omega, ih]
theorem hset_pre0 (os r : List (Option (List AV))) (x : Option (List AV)) : hset (os ++ r) os.length x = os ++ hset r 0 x := hset_pre os r 0 x
theorem hget_pre (os r : List (Option (List AV))) (i : Nat) : hget (os ++ r) (os.length + i) = hget r i := by
  rw [hget_append, if_neg (by omega), show os.length + i - os.length = i by omega]
theorem hget_pre0 (os r : List (Option (List AV))) : hget (os ++ r) os.length = hget r 0 := hget_pre os r 0
theorem hsub_of {f : Nat → Nat} {n : Nat} {A : AHeap} : ∀ {l : List (Option (List AV))} {i : Nat}, (∀ b, b < l.length → f (i + b) < A.n) → (∀ b cs, hget l b = some cs → ltL n cs = true ∧ A (f (i + b)) = some (renL f cs)) → hsub f n A i l
  | [], i, _, _ => trivial
  | none :: r, i, h1, h2 => ⟨by simpa using h1 0 (by simp), hsub_of (fun b hb => by have := h1 (b + 1) (by simp; omega); rwa [show i + (b + 1) = i + 1 + b by omega] at this) (fun b cs hb => by have := h2 (b + 1) cs (by simpa [hget] using hb); rwa [show i + (b + 1) = i + 1 + b by omega] at this)⟩
  | some c :: r, i, h1, h2 => ⟨by simpa using h2 0 c (by simp [hget]), hsub_of (fun b hb => by have := h1 (b + 1) (by simp; omega); rwa [show i + (b + 1) = i + 1 + b by omega] at this) (fun b cs hb => by have := h2 (b + 1) cs (by simpa [hget] using hb); rwa [show i + (b + 1) = i + 1 + b by omega] at this)⟩
theorem hsub_pre {os r : List (Option (List AV))} {m : Nat} (ho : ClosedH os) (hm : os.length ≤ m) : hsub (fun b => b) m ⟨os ++ r⟩ 0 os := by
  refine hsub_of (fun b hb => ?_) fun b cs hb => ?_
  · simp [AHeap.n]; omega
  · have hlt := hget_lt hb
    rw [Nat.zero_add]
    refine ⟨ltL_mono hm _ (ho b cs hb), ?_⟩
    show hget (os ++ r) b = _
    rw [hget_append, if_pos hlt, renL_id, hb]
theorem hsub_append {f : Nat → Nat} {n : Nat} {A : AHeap} : ∀ (l k : List (Option (List AV))) (i : Nat), hsub f n A i l → hsub f n A (i + l.length) k → hsub f n A i (l ++ k)
  | [], k, i, _, h => h
  | none :: r, k, i, h1, h => ⟨h1.1, hsub_append r k (i + 1) h1.2 (by rw [List.length_cons, show i + (r.length + 1) = i + 1 + r.length by omega] at h; exact h)⟩
  | some c :: r, k, i, h1, h => ⟨h1.1, hsub_append r k (i + 1) h1.2 (by rw [List.length_cons, show i + (r.length + 1) = i + 1 + r.length by omega] at h; exact h)⟩
theorem Sub.pre {os r r' : List (Option (List AV))} {t : Nat → AV} {l : List (Nat × AV)} (ho : ClosedH os) (hs : hsub (fun b => b) (os.length + r'.length) ⟨os ++ r⟩ os.length r') (ht : ∀ p ∈ l, p.2.lt (os.length + r'.length) = true ∧ t p.1 = p.2) : Sub os.length ⟨t, ⟨os ++ r⟩⟩ ⟨tl l, ⟨os ++ r'⟩⟩ := by
  have e : (os ++ r').length = os.length + r'.length := by simp
  refine Sub.keep (by simp) ?_ (by rw [e]; exact ht)
  rw [e]
  exact hsub_append _ _ _ (hsub_pre ho (by omega)) (by rw [Nat.zero_add]; exact hs)
theorem View.pre {os r : List (Option (List AV))} (ho : ClosedH os) : View (fun b => b) ⟨os ++ r⟩ ⟨os⟩ := by
  refine ⟨fun b hb => ?_, fun b cs hb => ?_, fun b b' cs cs' _ _ e => e⟩
  · have hb : b < os.length := hb
    simp [AHeap.n]; omega
  · have hlt := hget_lt hb
    refine ⟨ho b cs hb, ?_⟩
    show hget (os ++ r) b = _
    rw [hget_append, if_pos hlt, renL_id]
    exact hb
mutual
theorem ren_same {n : Nat} {g : Nat → Nat} (hg : ∀ b, b < n → g b = b) : ∀ x : AV, x.lt n = true → x.ren g = x
  | .ptr b o, h => by rw [AV.ren, hg b (of_decide_eq_true h)]
  | .ref b e o m t, h => by rw [AV.ren, hg b (of_decide_eq_true h)]
  | .ep x i o, h => by rw [AV.ren, ren_same hg x h]
  | .fn f cs, h => by rw [AV.ren, renL_same hg cs h]
  | .agg cs, h => by rw [AV.ren, renL_same hg cs h]
  | .tup cs, h => by rw [AV.ren, renL_same hg cs h]
  | .bool _, _ | .int _ _, _ | .str _, _ | .sl _ _, _ | .nilp, _ | .nilf, _ | .nili, _ | .iface, _ | .mv _ _, _ | .any, _ => rfl
theorem renL_same {n : Nat} {g : Nat → Nat} (hg : ∀ b, b < n → g b = b) : ∀ cs : List AV, ltL n cs = true → renL g cs = cs
  | [], _ => rfl
  | x :: r, h => by
    simp only [ltL, Bool.and_eq_true] at h
    rw [renL, ren_same hg x h.1, renL_same hg r h.2]
end
theorem upd_pre (g : Nat → Nat) (os r : List (Option (List AV))) (ho : ClosedH os) (hg : ∀ b, b < os.length → g b = b) : upd (fun b => b) g 0 os os (os ++ r) = os ++ r := by
  have key : ∀ (a b : List (Option (List AV))), (∀ i cs, hget b i = some cs → renL g cs = cs) → upd (fun b => b) g a.length b b (a ++ b ++ r) = a ++ b ++ r := by
    intro a b
    induction b generalizing a with
    | nil => intro _; simp [upd]
    | cons o b ih =>
      intro h
      rw [upd]
      have h0 : (if o.isSome = true then hset (a ++ o :: b ++ r) a.length (o.map (renL g)) else a ++ o :: b ++ r) = (a ++ [o]) ++ b ++ r := by
        cases o with
        | none => simp
        | some c =>
          simp only [Option.isSome_some, if_true, Option.map_some, List.append_assoc, List.cons_append]
          rw [hset_pre0, hset, if_pos rfl, h 0 c (by simp [hget])]
          simp
      rw [h0]
      have := ih (a ++ [o]) (fun i cs hi => h (i + 1) cs (by simpa [hget] using hi))
      simp only [List.length_append, List.length_cons, List.length_nil] at this
      rw [this]
      simp
  have := key [] os (fun i cs hi => renL_same hg cs (ho i cs hi))
  simpa using this
/-- A call that sees some objects and leaves them as they are. -/
theorem T.sees {f : FuncId} {args : List AV} {os : List (Option (List AV))} {v : AV} (h : T P f args ⟨os⟩ fun r A' => r = v ∧ A' = ⟨os⟩) (ho : ClosedH os) (ha : ltL os.length args = true) (hv : v.lt 0 = true) (r : List (Option (List AV))) :
    T P f args ⟨os ++ r⟩ fun x A' => x = v ∧ A' = ⟨os ++ r⟩ := by
  have := h.embed (A := ⟨os ++ r⟩) (View.pre ho) ha
  rw [renL_id] at this
  refine this.mono ?_
  rintro x A1 ⟨r', A1', ⟨rfl, rfl⟩, rfl, rfl⟩
  refine ⟨ren_low _ _ hv, AHeap.ext' ?_⟩
  exact upd_pre _ os r ho (fun b hb => by simp [extN, AHeap.n, hb])
end Go.Proofs.YtgophedkejgedaaDoorAi
end

section
/- Contracts: graphs that are made. -/
namespace Go.Proofs.YtgophedkejgedaaDoorAi
open Go Go.RowKit
set_option linter.unusedVariables false
set_option linter.unusedSimpArgs false
set_option maxRecDepth 20000

def rowE (J : Nat → Nat → Bool) (j : Nat) (e : Nat) : Nat → Nat
  | 0 => e
  | i + 1 => if J i j = true then rowE J j e i ||| 2 ^ bitI i j else rowE J j e i
def madeE (J : Nat → Nat → Bool) : Nat → Nat
  | 0 => 0
  | j + 1 => rowE J j (madeE J j) j
theorem bitI_lt {i j : Nat} (h : i < j) (hj : j < 5) : bitI i j < 10 := by
  unfold bitI
  rw [if_pos h]
  have h5 : j = 1 ∨ j = 2 ∨ j = 3 ∨ j = 4 := by omega
  rcases h5 with rfl | rfl | rfl | rfl <;> omega
theorem rowE_lt {J : Nat → Nat → Bool} {j e : Nat} (he : e < 1024) (hj : j < 5) : ∀ {i : Nat}, i ≤ j → rowE J j e i < 1024
  | 0, _ => he
  | i + 1, hi => by
    have h1 := rowE_lt (J := J) he hj (show i ≤ j by omega)
    rw [rowE]
    split
    · exact Nat.or_lt_two_pow (n := 10) h1 (Nat.pow_lt_pow_right (by omega) (bitI_lt (by omega) hj))
    · exact h1
theorem madeE_lt {J : Nat → Nat → Bool} : ∀ {n : Nat}, n ≤ 5 → madeE J n < 1024
  | 0, _ => by simp [madeE]
  | j + 1, hj => rowE_lt (madeE_lt (by omega)) (by omega) (Nat.le_refl _)

theorem orBit0 {a c : Nat} (ha : a < 1024) (hc : c < 1024) : IntKind.u32.wrap ((a % 2 ^ IntKind.u32.bits ||| ((c : Int) % 2 ^ IntKind.u32.bits).toNat : Nat)) = ((a ||| c : Nat) : Int) := by
  have e1 : a % 2 ^ IntKind.u32.bits = a := Nat.mod_eq_of_lt (by simp only [IntKind.bits]; omega)
  have e2 : ((c : Int) % 2 ^ IntKind.u32.bits).toNat = c := by
    rw [Int.emod_eq_of_lt (by omega) (by simp only [IntKind.bits]; omega)]
    simp
  rw [e1, e2]
  have := Nat.or_lt_two_pow (n := 10) ha hc
  exact wrap32 (by omega) (by omega)
theorem orBit {a b : Nat} (ha : a < 1024) (hb : b < 10) : IntKind.u32.wrap ((a % 2 ^ IntKind.u32.bits ||| ((2 : Int) ^ b % 2 ^ IntKind.u32.bits).toNat : Nat)) = ((a ||| 2 ^ b : Nat) : Int) := by
  have e : (2 : Int) ^ b = ((2 ^ b : Nat) : Int) := by simp
  rw [e]
  exact orBit0 ha (Nat.pow_lt_pow_right (n := 10) (by omega) hb)
theorem injB_id (n : Nat) : injB (fun b => b) n = true := by
  simp only [injB, List.all_eq_true]
  intro i _ j _
  by_cases h : i = j <;> simp [h]
theorem T_made {g : FuncId} {caps : List AV} {os : List (Option (List AV))} (J : Nat → Nat → Bool) (n : Nat) (hn : n ≤ 5) (ho : ClosedH os) (hc : ltL os.length caps = true)
    (hf : ∀ i j, i < j → j < n → T PP g ([.int .i64 i, .int .i64 j] ++ caps) ⟨os⟩ fun r A' => r = .bool (J i j) ∧ A' = ⟨os⟩) :
    T PP 126 [.int .i64 n, .fn g caps] ⟨os⟩ fun r A' => r = .agg [.int .i64 n, .int .u32 (madeE J n)] ∧ A' = ⟨os⟩ := by
  refine H_code (Quiet.q1 q_impl_bit Quiet.nil) hmix k_impl_made rfl (fun b => b) (Nat.le_refl _) (fun _ _ => rfl) (injB_id _) (by rfl) ?_
  show wpc os.length PP _ c_impl_made (initSt [.int .i64 n, .fn g caps] ⟨os⟩) _
  have k1 : ¬ (os.length + 1 < os.length) := by omega
  simp -dsimp -implicitDefEqProofs [c_impl_made, r_impl_made, hset_pre0, hset_pre, k1]
  refine wpLoop_st (fun (j : Nat) => ⟨tl [(0, .int .i64 n), (1, .fn g caps), (4, .ptr os.length 0), (5, .ptr (os.length + 1) 0), (10, .int .i64 n), (11, .int .i64 j)], ⟨os ++ [some [.int .i64 0, .int .u32 0], some [.int .i64 n, .int .u32 (madeE J j)]]⟩⟩) (fun j => j ≤ n) (fun j => n - j) 0 (by omega) (Sub.pre ho (by simp [hsub, k1, madeE]) (by simp [ltL_mono (Nat.le_add_right os.length 2) _ hc])) ?_
  intro j hj
  simp -dsimp -implicitDefEqProofs [hset_pre0, hset_pre, k1]
  refine brW_of (fun h => ?_) (fun h => ?_) <;> simp only [decide_eq_true_eq, decide_eq_false_iff_not] at h
  · have hw := wrapNat (i := j) (by omega)
    simp -dsimp -implicitDefEqProofs [k1, hw]
    refine wpLoop_st (fun (i : Nat) => ⟨tl [(0, .int .i64 n), (1, .fn g caps), (4, .ptr os.length 0), (5, .ptr (os.length + 1) 0), (10, .int .i64 n), (11, .int .i64 j), (6, .int .i64 j), (14, .int .i64 j), (15, .int .i64 i)], ⟨os ++ [some [.int .i64 0, .int .u32 0], some [.int .i64 n, .int .u32 (rowE J j (madeE J j) i)]]⟩⟩) (fun i => i ≤ j) (fun i => j - i) 0 (by omega) (Sub.pre ho (by simp [hsub, k1, rowE]) (by simp [ltL_mono (Nat.le_add_right os.length 2) _ hc])) ?_
    intro i hi
    simp -dsimp -implicitDefEqProofs [k1, hw]
    refine brW_of (fun h => ?_) (fun h => ?_) <;> simp only [decide_eq_true_eq, decide_eq_false_iff_not] at h
    · have hw := wrapNat (i := i) (by omega)
      simp -dsimp -implicitDefEqProofs [k1, hw]
      refine ((hf i j h (by omega)).sees ho (by simpa using hc) rfl _).mono ?_
      rintro r A' ⟨rfl, rfl⟩
      have hb := sp_bit_eq i j (by omega)
      cases hJ : J i j with
      | false =>
        simp -dsimp -implicitDefEqProofs [k1, hw]
        exact .mk (i + 1) (by omega) (by omega) (Sub.pre ho (by simp [hsub, k1, rowE, hJ]) (by simp [hw, ltL_mono (Nat.le_add_right os.length 2) _ hc]))
      | true =>
        simp -dsimp -implicitDefEqProofs [k1, hw, hb, hset_pre0, hset_pre]
        have he := orBit (rowE_lt (J := J) (madeE_lt (J := J) (n := j) (by omega)) (by omega) hi) (bitI_lt h (by omega))
        exact .mk (i + 1) (by omega) (by omega) (Sub.pre ho (by simp [hsub, k1, rowE, hJ, he]) (by simp [hw, ltL_mono (Nat.le_add_right os.length 2) _ hc]))
    · have : i = j := by omega
      subst this
      simp -dsimp -implicitDefEqProofs [k1, hw]
      exact .mk (i + 1) (by omega) (by omega) (Sub.pre ho (by simp [hsub, k1, madeE]) (by simp [hw, ltL_mono (Nat.le_add_right os.length 2) _ hc]))
  · have : j = n := by omega
    subst this
    simp -dsimp -implicitDefEqProofs [hset_pre0, hset_pre, k1, hsub_pre ho]

def yes (i j : Nat) : Bool := true
theorem made_yes : ∀ n : Nat, n ≤ 5 → madeE yes n = 2 ^ (n * (n - 1) / 2) - 1 := by decide
theorem ClosedH.nil : ClosedH [] := fun b cs h => by cases h
end Go.Proofs.YtgophedkejgedaaDoorAi
end

section
/- Edges of graphs as bits. -/
namespace Go.Proofs.YtgophedkejgedaaDoorAi
open Go Go.RowKit
set_option linter.unusedVariables false
set_option linter.unusedSimpArgs false

theorem or_step (c : Bool) (a b k : Nat) : (if c = true then a ||| 2 ^ b else a).testBit k = (a.testBit k || (c && decide (b = k))) := by
  cases c <;> simp [Nat.testBit_or, Nat.testBit_two_pow]
theorem bitI_c {i j : Nat} : bitI i j = bitI j i := by
  unfold bitI
  by_cases h : i < j
  · rw [if_pos h, if_neg (by omega)]
  · by_cases h2 : j < i
    · rw [if_neg h, if_pos h2]
    · have : i = j := by omega
      subst this; simp
theorem tri_step (j : Nat) : (j + 1) * j / 2 = j * (j - 1) / 2 + j := by
  cases j with
  | zero => rfl
  | succ j =>
    have h : (j + 1 + 1) * (j + 1) = (j + 1) * (j + 1 - 1) + (j + 1) * 2 := by
      rw [← Nat.mul_add, show j + 1 - 1 + 2 = j + 1 + 1 by omega, Nat.mul_comm]
    rw [h, Nat.add_mul_div_right _ _ (by omega)]
theorem tri_mono {i j : Nat} (h : i ≤ j) : i * (i - 1) / 2 ≤ j * (j - 1) / 2 := Nat.div_le_div_right (Nat.mul_le_mul h (by omega))
theorem bitI_inj {i j i' j' : Nat} (h : i < j) (h' : i' < j') (e : bitI i j = bitI i' j') : i = i' ∧ j = j' := by
  unfold bitI at e
  rw [if_pos h, if_pos h'] at e
  have key : ∀ a b : Nat, a < b → a * (a - 1) / 2 + a ≤ b * (b - 1) / 2 := by
    intro a b hab
    have := tri_mono (i := a + 1) (j := b) (by omega)
    rw [show a + 1 - 1 = a by omega, tri_step] at this
    exact this
  rcases Nat.lt_trichotomy j j' with hj | hj | hj
  · have := key j j' hj; omega
  · subst hj; omega
  · have := key j' j hj; omega
theorem rowE_bit (J : Nat → Nat → Bool) (j e k : Nat) : ∀ i, i ≤ j → ((rowE J j e i).testBit k = true ↔ (e.testBit k = true ∨ ∃ a, a < i ∧ J a j = true ∧ bitI a j = k))
  | 0, _ => by simp [rowE]
  | i + 1, h => by
    rw [rowE, or_step, Bool.or_eq_true, rowE_bit J j e k i (by omega), or_assoc]
    simp only [Bool.and_eq_true, decide_eq_true_eq]
    constructor
    · rintro (h1 | ⟨a, h1, h2⟩ | ⟨h1, h2⟩)
      · exact .inl h1
      · exact .inr ⟨a, by omega, h2⟩
      · exact .inr ⟨i, by omega, h1, h2⟩
    · rintro (h1 | ⟨a, h1, h2, h3⟩)
      · exact .inl h1
      · by_cases ha : a = i
        · subst ha; exact .inr (.inr ⟨h2, h3⟩)
        · exact .inr (.inl ⟨a, by omega, h2, h3⟩)
/-- The edges that are made. -/
theorem madeE_bit (J : Nat → Nat → Bool) (k : Nat) : ∀ n, (madeE J n).testBit k = true ↔ ∃ a b, a < b ∧ b < n ∧ J a b = true ∧ bitI a b = k
  | 0 => by simp [madeE]
  | n + 1 => by
    rw [madeE, rowE_bit J n _ k n (Nat.le_refl _), madeE_bit J k n]
    constructor
    · rintro (⟨a, b, h1, h2, h3⟩ | ⟨a, h1, h2⟩)
      · exact ⟨a, b, h1, by omega, h3⟩
      · exact ⟨a, n, h1, by omega, h2⟩
    · rintro ⟨a, b, h1, h2, h3⟩
      by_cases hb : b = n
      · subst hb; exact .inr ⟨a, h1, h3⟩
      · exact .inl ⟨a, b, h1, by omega, h3⟩
theorem madeE_has (J : Nat → Nat → Bool) {n i j : Nat} (h : i < j) (hj : j < n) : (madeE J n).testBit (bitI i j) = J i j := by
  rw [Bool.eq_iff_iff, madeE_bit]
  constructor
  · rintro ⟨a, b, h1, h2, h3, h4⟩
    obtain ⟨rfl, rfl⟩ := bitI_inj h1 h h4
    exact h3
  · intro hJ
    exact ⟨i, j, h, hj, hJ, rfl⟩
/-- Each bit below is one of a pair. -/
theorem bit_pair {n k : Nat} (hk : k < n * (n - 1) / 2) : ∃ a b, a < b ∧ b < n ∧ bitI a b = k := by
  induction n with
  | zero => simp at hk
  | succ n ih =>
    rw [show n + 1 - 1 = n by omega, tri_step] at hk
    by_cases h : k < n * (n - 1) / 2
    · obtain ⟨a, b, h1, h2, h3⟩ := ih h
      exact ⟨a, b, h1, by omega, h3⟩
    · refine ⟨k - n * (n - 1) / 2, n, by omega, by omega, ?_⟩
      unfold bitI
      rw [if_pos (by omega)]
      omega
theorem bitI_tri {a b n : Nat} (h : a < b) (hb : b < n) : bitI a b < n * (n - 1) / 2 := by
  unfold bitI
  rw [if_pos h]
  have := tri_mono (i := b + 1) (j := n) (by omega)
  rw [show b + 1 - 1 = b by omega, tri_step] at this
  omega
theorem edges_ext {n e e' : Nat} (he : e < 2 ^ (n * (n - 1) / 2)) (he' : e' < 2 ^ (n * (n - 1) / 2)) (h : ∀ a b, a < b → b < n → e.testBit (bitI a b) = e'.testBit (bitI a b)) : e = e' := by
  apply Nat.eq_of_testBit_eq
  intro k
  by_cases hk : k < n * (n - 1) / 2
  · obtain ⟨a, b, h1, h2, rfl⟩ := bit_pair hk
    exact h a b h1 h2
  · rw [Nat.testBit_lt_two_pow (Nat.lt_of_lt_of_le he (Nat.pow_le_pow_right (by omega) (by omega))), Nat.testBit_lt_two_pow (Nat.lt_of_lt_of_le he' (Nat.pow_le_pow_right (by omega) (by omega)))]
theorem madeE_tri (J : Nat → Nat → Bool) (n : Nat) : madeE J n < 2 ^ (n * (n - 1) / 2) := by
  apply Nat.lt_of_not_le
  intro h
  obtain ⟨k, hk1, hk2⟩ := Nat.exists_ge_and_testBit_of_ge_two_pow h
  rw [madeE_bit] at hk2
  obtain ⟨a, b, h1, h2, _, h4⟩ := hk2
  have := bitI_tri h1 h2
  omega
theorem xor_made {n e : Nat} (he : e < 2 ^ (n * (n - 1) / 2)) : (2 ^ (n * (n - 1) / 2) - 1) ^^^ e = madeE (fun i j => !e.testBit (bitI i j)) n := by
  refine edges_ext (Nat.xor_lt_two_pow (by have := Nat.two_pow_pos (n * (n - 1) / 2); omega) he) (madeE_tri _ n) fun a b h1 h2 => ?_
  rw [madeE_has _ h1 h2, Nat.testBit_xor, Nat.testBit_two_pow_sub_one]
  simp [bitI_tri h1 h2]
end Go.Proofs.YtgophedkejgedaaDoorAi
end

section
/- Contracts of functions that take functions. -/
namespace Go.Proofs.YtgophedkejgedaaDoorAi
open Go Go.RowKit
set_option linter.unusedVariables false
set_option linter.unusedSimpArgs false
set_option maxRecDepth 20000
variable {P : Program}

theorem T.of_closed {f : FuncId} {args : List AV} {A : AHeap} {R : AV → AHeap → Prop} (he : Enters P f) (h : ClosedH A.l → ltL A.n args = true → T P f args A R) : T P f args A R := by
  refine ⟨he, fun B w0 σ w vs hG hb hs ha => (h (fun b cs e => ?_) ?_).2 B w0 σ w vs hG hb hs ha⟩
  · obtain ⟨c, cur, t, k1, k2, k3, k4, k5, k6⟩ := hs.own b cs e
    refine ltL_of fun x hx => ?_
    obtain ⟨j, hj⟩ := List.mem_iff_getElem?.1 hx
    obtain ⟨v, _, e2, _⟩ := k6 j x hj
    exact hs.lt_of x v e2
  · refine ltL_of fun x hx => ?_
    obtain ⟨j, hj⟩ := List.mem_iff_getElem?.1 hx
    have hlt : j < vs.length := by rw [← ha.1]; exact (List.getElem?_eq_some_iff.1 hj).1
    exact hs.lt_of x _ (ha.2 j x _ hj (List.getElem?_eq_getElem hlt))

theorem rowE_congr {J J' : Nat → Nat → Bool} {j e : Nat} : ∀ {i : Nat}, (∀ a, a < i → J a j = J' a j) → rowE J j e i = rowE J' j e i
  | 0, _ => rfl
  | i + 1, h => by rw [rowE, rowE, h i (by omega), rowE_congr (fun a ha => h a (by omega))]
theorem madeE_congr {J J' : Nat → Nat → Bool} : ∀ {n : Nat}, (∀ i j, i < j → j < n → J i j = J' i j) → madeE J n = madeE J' n
  | 0, _ => rfl
  | n + 1, h => by rw [madeE, madeE, madeE_congr (fun i j hi hj => h i j hi (by omega)), rowE_congr (fun a ha => h a n ha (by omega))]

def yesOf (sp : List AV → AHeap → Option (AV × AHeap)) (args : List AV) (A : AHeap) : Bool := match sp args A with
  | some (.bool b, _) => b
  | _ => false
open Classical in
noncomputable def spMade (g : FuncId) (sp : List AV → AHeap → Option (AV × AHeap)) : List AV → AHeap → Option (AV × AHeap)
  | [.int .i64 n, .fn g' caps], A => if g' = g ∧ 0 ≤ n ∧ n ≤ 5 ∧ ∀ i j : Nat, i < j → j < n.toNat → sp ([.int .i64 i, .int .i64 j] ++ caps) A = some (.bool (yesOf sp ([.int .i64 i, .int .i64 j] ++ caps) A), A)
      then some (.agg [.int .i64 n, .int .u32 (madeE (fun i j => yesOf sp ([.int .i64 i, .int .i64 j] ++ caps) A) n.toNat)], A) else none
  | _, _ => none
theorem spMade_eq {g : FuncId} {sp : List AV → AHeap → Option (AV × AHeap)} (J : Nat → Nat → Bool) {n : Int} {caps : List AV} {A : AHeap} (hn : 0 ≤ n ∧ n ≤ 5) (h : ∀ i j : Nat, i < j → j < n.toNat → sp ([.int .i64 i, .int .i64 j] ++ caps) A = some (.bool (J i j), A)) :
    spMade g sp [.int .i64 n, .fn g caps] A = some (.agg [.int .i64 n, .int .u32 (madeE J n.toNat)], A) := by
  have hy : ∀ i j : Nat, i < j → j < n.toNat → yesOf sp ([.int .i64 i, .int .i64 j] ++ caps) A = J i j := by
    intro i j hi hj
    unfold yesOf
    rw [h i j hi hj]
  unfold spMade
  dsimp only
  rw [if_pos ⟨rfl, hn.1, hn.2, fun i j hi hj => by rw [hy i j hi hj]; exact h i j hi hj⟩, madeE_congr hy]
theorem QE_made {g : FuncId} {sp : List AV → AHeap → Option (AV × AHeap)} (hg : QE PP g sp) : QE PP 126 (spMade g sp) := by
  intro args A r A1 e
  unfold spMade at e
  split at e
  · rename_i n g' caps
    split at e
    · rename_i hc
      obtain ⟨rfl, h0, h5, hJ⟩ := hc
      injection e with e
      injection e with e1 e2
      subst e1; subst e2
      obtain ⟨m, rfl⟩ := Int.eq_ofNat_of_zero_le h0
      refine T.of_closed (T_made (g := g') (caps := []) (os := []) yes 0 (by omega) ClosedH.nil rfl (fun i j _ hj => absurd hj (Nat.not_lt_zero _))).1 fun ho hl => ?_
      exact T_made (os := A.l) _ m (by omega) ho (by simpa [ltL, AV.lt] using hl) fun i j hi hj => hg _ _ _ _ (hJ i j hi hj)
    · cases e
  · cases e
end Go.Proofs.YtgophedkejgedaaDoorAi
end

section
/- Contracts: the graph with all edges. -/
namespace Go.Proofs.YtgophedkejgedaaDoorAi
open Go Go.RowKit
set_option linter.unusedVariables false
set_option linter.unusedSimpArgs false
set_option maxRecDepth 20000

theorem tri_pow {n : Int} (h : 0 ≤ n ∧ n ≤ 5) : n = 0 ∨ n = 1 ∨ n = 2 ∨ n = 3 ∨ n = 4 ∨ n = 5 := by omega
def compR (n : Int) : AV := if 0 ≤ n ∧ n ≤ 5 then .tup [.agg [.int .i64 n, .int .u32 (2 ^ (n.toNat * (n.toNat - 1) / 2) - 1 : Nat)], .int .i64 0] else .tup [.agg [.int .i64 0, .int .u32 0], .int .i64 2]
@[simp] theorem compR_lt (n : Int) (k : Nat) : (compR n).lt k = true := by unfold compR; split <;> rfl
noncomputable def sp_CompleteGraph : List AV → Option (AV) := pf (ι := (Int)) (α := AV) (fun n => True) (fun n => [.int .i64 n]) (fun n => compR n)
theorem sp_CompleteGraph_eq (n : Int) : sp_CompleteGraph [.int .i64 n] = some (compR n) := by
  unfold sp_CompleteGraph
  exact pf_eq (ι := (Int)) (α := AV) n trivial (by rintro n' _ e; simp_all [Int.natCast_inj])
attribute [simp] sp_CompleteGraph_eq
end Go.Proofs.YtgophedkejgedaaDoorAi
end

section
/- MADE BY PROGRAM (wip/tools/gen.py): the abstract code of functions. -/
namespace Go.Proofs.YtgophedkejgedaaDoorAi
open Go AC AOp Opd
set_option linter.unusedVariables false
set_option maxRecDepth 100000
def c_impl_Graph_has : AC := seq (reg [⟨(some 3), box 2 (t 0), none⟩, ⟨(some 6), mv (c (.bool false)), none⟩]) (seq (reg [⟨(some 7), fad (t 3) 1, none⟩, ⟨(some 8), ld (t 7) 1 false, none⟩, ⟨(some 9), mv (t 1), none⟩, ⟨(some 10), mv (t 2), none⟩, ⟨(some 11), callq (c (.fn 86 [])) [t 9, t 10], none⟩, ⟨(some 12), bin .and (t 8) (t 11), none⟩, ⟨(some 13), bin .neq (t 12) (c (.int .u32 0)), none⟩, ⟨(some 6), mv (t 13), none⟩]) (ret))
def r_impl_Graph_has : List ARes := [.tmp 6]
theorem k_impl_Graph_has : acLin Go.Proofs.Tryd.prog 91 3 (inQ [86] []) [⟨false, none, [], [], none⟩, ⟨false, some [0, 1, 2, 3, 4, 5, 6, 7], [], [], none⟩] = some (c_impl_Graph_has, r_impl_Graph_has) := by kernel_rfl
def c_impl_Graph_opposite_1 : AC := seq (reg [⟨(some 5), mv (c (.bool false)), none⟩]) (seq (reg [⟨(some 6), ld (t 2) 2 true, none⟩, ⟨(some 7), mv (t 0), none⟩, ⟨(some 8), mv (t 1), none⟩, ⟨(some 9), callq (c (.fn 91 [])) [t 6, t 7, t 8], none⟩, ⟨(some 10), un .not (t 9), none⟩, ⟨(some 5), mv (t 10), none⟩]) (ret))
def r_impl_Graph_opposite_1 : List ARes := [.tmp 5]
theorem k_impl_Graph_opposite_1 : acLin Go.Proofs.Tryd.prog 127 3 (inQ [91] []) [] = some (c_impl_Graph_opposite_1, r_impl_Graph_opposite_1) := by kernel_rfl
def c_impl_Graph_opposite : AC := seq (reg [⟨(some 1), box 2 (t 0), none⟩, ⟨(some 2), alloc [.int .i64 0, .int .u32 0], none⟩]) (seq (reg [⟨(some 3), fad (t 1) 0, none⟩, ⟨(some 4), ld (t 3) 1 false, none⟩, ⟨(some 5), mkf 127 [t 1], none⟩, ⟨(some 6), calle (c (.fn 126 [])) [t 4, t 5] [], none⟩, ⟨none, st (t 2) 2 (t 6), none⟩]) (ret))
def r_impl_Graph_opposite : List ARes := [.cell 2 2 true]
theorem k_impl_Graph_opposite : acLin Go.Proofs.Tryd.prog 89 1 (inQ [] [126]) [] = some (c_impl_Graph_opposite, r_impl_Graph_opposite) := by kernel_rfl
end Go.Proofs.YtgophedkejgedaaDoorAi
end

section
/- Contracts: edges of graphs; opposite graphs; copies of lists. -/
namespace Go.Proofs.YtgophedkejgedaaDoorAi
open Go Go.RowKit
set_option linter.unusedVariables false
set_option linter.unusedSimpArgs false
set_option maxRecDepth 20000

theorem andBit0 {a c : Nat} (ha : a < 4294967296) (hc : c < 1024) : IntKind.u32.wrap ((a % 2 ^ IntKind.u32.bits &&& ((c : Int) % 2 ^ IntKind.u32.bits).toNat : Nat)) = ((a &&& c : Nat) : Int) := by
  have e1 : a % 2 ^ IntKind.u32.bits = a := Nat.mod_eq_of_lt (by simp only [IntKind.bits]; omega)
  have e2 : ((c : Int) % 2 ^ IntKind.u32.bits).toNat = c := by
    rw [Int.emod_eq_of_lt (by omega) (by simp only [IntKind.bits]; omega)]
    simp
  rw [e1, e2]
  have : a &&& c ≤ c := Nat.and_le_right
  exact wrap32 (by omega) (by omega)
theorem and_pow (a b : Nat) : a &&& 2 ^ b = if a.testBit b = true then 2 ^ b else 0 := by
  apply Nat.eq_of_testBit_eq
  intro k
  rw [Nat.testBit_and, Nat.testBit_two_pow]
  by_cases h : b = k
  · subst h
    cases a.testBit b <;> simp
  · cases a.testBit b <;> simp [h, Nat.testBit_two_pow]
theorem andBit {a b : Nat} (ha : a < 4294967296) (hb : b < 10) : IntKind.u32.wrap ((a % 2 ^ IntKind.u32.bits &&& ((2 : Int) ^ b % 2 ^ IntKind.u32.bits).toNat : Nat)) = if a.testBit b = true then ((2 ^ b : Nat) : Int) else 0 := by
  have e : (2 : Int) ^ b = ((2 ^ b : Nat) : Int) := by simp
  rw [e, andBit0 ha (Nat.pow_lt_pow_right (n := 10) (by omega) hb), and_pow]
  cases a.testBit b <;> simp
theorem bitI_10 {i j : Nat} (hi : i < 5) (hj : j < 5) (h : i ≠ j) : bitI i j < 10 := by
  rcases Nat.lt_or_gt_of_ne h with h | h
  · exact bitI_lt h hj
  · rw [bitI_c]; exact bitI_lt h hi

def hasB (e i j : Int) : Bool := e.toNat.testBit (bitI i.toNat j.toNat)
def vx (i j : Int) : Prop := (0 ≤ i ∧ i < 5) ∧ (0 ≤ j ∧ j < 5) ∧ i ≠ j
noncomputable def sp_has : List AV → Option (AV) := pf (ι := (Int) × (Int) × (Int) × (Int)) (α := AV) (fun ⟨n, e, i, j⟩ => (0 ≤ e ∧ e ≤ 4294967295) ∧ vx i j) (fun ⟨n, e, i, j⟩ => [.agg [.int .i64 n, .int .u32 e], .int .i64 i, .int .i64 j]) (fun ⟨n, e, i, j⟩ => .bool (hasB e i j))
theorem sp_has_eq (n e i j : Int) (h : (0 ≤ e ∧ e ≤ 4294967295) ∧ vx i j) : sp_has [.agg [.int .i64 n, .int .u32 e], .int .i64 i, .int .i64 j] = some (.bool (hasB e i j)) := by
  unfold sp_has
  exact pf_eq (ι := (Int) × (Int) × (Int) × (Int)) (α := AV) (n, e, i, j) h (by rintro ⟨n', e', i', j'⟩ _ e; simp_all [Int.natCast_inj])
theorem q_impl_Graph_has : QP PP 91 sp_has := by
  refine QP_pf (fun i h => ?_) fun i h => ?_
  · obtain ⟨n, e, i, j⟩ := i; exact ⟨by first | rfl | simp, by first | rfl | simp⟩
  obtain ⟨n, e, i, j⟩ := i
  replace h : (0 ≤ e ∧ e ≤ 4294967295) ∧ vx i j := h
  refine P_code (Quiet.q1 q_impl_bit Quiet.nil) hmix k_impl_Graph_has rfl ?_ ?_
  · first | rfl | simp
  show wpc 0 PP _ c_impl_Graph_has (initSt [.agg [.int .i64 n, .int .u32 e], .int .i64 i, .int .i64 j] .nil) (endP r_impl_Graph_has (.bool (hasB e i j)))
  obtain ⟨⟨e0, e1⟩, ⟨i0, i1⟩, ⟨j0, j1⟩, hij⟩ := h
  obtain ⟨m, rfl⟩ := Int.eq_ofNat_of_zero_le e0
  have hb := andBit (a := m) (b := bitI i.toNat j.toNat) (by omega) (bitI_10 (by omega) (by omega) (by omega))
  simp -dsimp -implicitDefEqProofs [c_impl_Graph_has, r_impl_Graph_has, sp_bit_eq i j (by omega), hb, hasB]
  have hp : (2 : Int) ^ bitI i.toNat j.toNat ≠ 0 := Int.pow_ne_zero (by omega)
  cases m.testBit (bitI i.toNat j.toNat) <;> simp [hp]

def notE (e : Int) (n : Int) : Nat := madeE (fun i j => !hasB e i j) n.toNat
noncomputable def sp_opp1 : List (Option (List AV)) → List AV → Option (AV × List (Option (List AV))) := pv (pf (ι := (Int) × (Int) × (Int) × (Int)) (α := AV × List (Option (List AV))) (fun ⟨n, e, i, j⟩ => (0 ≤ e ∧ e ≤ 4294967295) ∧ vx i j) (fun i => .agg (((fun ⟨n, e, i, j⟩ => [some [.int .i64 n, .int .u32 e]] : (Int) × (Int) × (Int) × (Int) → List (Option (List AV))) i).map enO) :: (fun ⟨n, e, i, j⟩ => [.int .i64 i, .int .i64 j, .ptr 0 0] : (Int) × (Int) × (Int) × (Int) → List AV) i) (fun ⟨n, e, i, j⟩ => (.bool (!hasB e i j), [some [.int .i64 n, .int .u32 e]])))
theorem sp_opp1_eq (n e i j : Int) (h : (0 ≤ e ∧ e ≤ 4294967295) ∧ vx i j) : sp_opp1 [some [.int .i64 n, .int .u32 e]] [.int .i64 i, .int .i64 j, .ptr 0 0] = some (.bool (!hasB e i j), [some [.int .i64 n, .int .u32 e]]) := by
  unfold sp_opp1 pv
  exact pf_eq (ι := (Int) × (Int) × (Int) × (Int)) (α := AV × List (Option (List AV))) (n, e, i, j) h (by rintro ⟨n', e', i', j'⟩ _ e; simp_all [enO, Int.natCast_inj])
theorem v_impl_Graph_opposite_1 : QV PP 127 sp_opp1 := by
  refine QV_pf fun i h => ?_
  obtain ⟨n, e, i, j⟩ := i
  replace h : (0 ≤ e ∧ e ≤ 4294967295) ∧ vx i j := h
  refine H_code (Quiet.q1 q_impl_Graph_has Quiet.nil) hmix k_impl_Graph_opposite_1 rfl (fun b => b) (by simp [AHeap.n]) (fun _ _ => rfl) (by rfl) (by first | rfl | simp) ?_
  show wpc _ PP _ c_impl_Graph_opposite_1 (initSt [.int .i64 i, .int .i64 j, .ptr 0 0] ⟨[some [.int .i64 n, .int .u32 e]]⟩) (endH (fun b => b) r_impl_Graph_opposite_1 (.bool (!hasB e i j)) [some [.int .i64 n, .int .u32 e]])
  simp -dsimp -implicitDefEqProofs [c_impl_Graph_opposite_1, r_impl_Graph_opposite_1, sp_has_eq n e i j h, hsub]
theorem e_made_opp : QE PP 126 (spMade 127 (spV sp_opp1)) := QE_made v_impl_Graph_opposite_1.toE
noncomputable def sp_opp : List AV → Option (AV) := pf (ι := (Int) × (Int)) (α := AV) (fun ⟨n, e⟩ => (0 ≤ n ∧ n ≤ 5) ∧ (0 ≤ e ∧ e ≤ 4294967295)) (fun ⟨n, e⟩ => [.agg [.int .i64 n, .int .u32 e]]) (fun ⟨n, e⟩ => .agg [.int .i64 n, .int .u32 (notE e n)])
theorem sp_opp_eq (n e : Int) (h : (0 ≤ n ∧ n ≤ 5) ∧ (0 ≤ e ∧ e ≤ 4294967295)) : sp_opp [.agg [.int .i64 n, .int .u32 e]] = some (.agg [.int .i64 n, .int .u32 (notE e n)]) := by
  unfold sp_opp
  exact pf_eq (ι := (Int) × (Int)) (α := AV) (n, e) h (by rintro ⟨n', e'⟩ _ e; simp_all [Int.natCast_inj])
theorem q_impl_Graph_opposite : QP PP 89 sp_opp := by
  refine QP_pf (fun i h => ?_) fun i h => ?_
  · obtain ⟨n, e⟩ := i; exact ⟨by first | rfl | simp, by first | rfl | simp⟩
  obtain ⟨n, e⟩ := i
  replace h : (0 ≤ n ∧ n ≤ 5) ∧ (0 ≤ e ∧ e ≤ 4294967295) := h
  refine P_code (Quiet.e1 e_made_opp Quiet.nil) hmix k_impl_Graph_opposite rfl ?_ ?_
  · first | rfl | simp
  show wpc 0 PP _ c_impl_Graph_opposite (initSt [.agg [.int .i64 n, .int .u32 e]] .nil) (endP r_impl_Graph_opposite (.agg [.int .i64 n, .int .u32 (notE e n)]))
  have hm := spMade_eq (g := 127) (sp := spV sp_opp1) (n := n) (caps := [.ptr 0 0]) (A := ⟨[some [.int .i64 n, .int .u32 e], some [.int .i64 0, .int .u32 0]]⟩) (fun i j => !hasB e i j) h.1 (fun i j hi hj => by
    have := sp_opp1_eq n e i j ⟨h.2, by unfold vx; omega⟩
    simp [this])
  simp -dsimp -implicitDefEqProofs [c_impl_Graph_opposite, r_impl_Graph_opposite, hm, notE]
end Go.Proofs.YtgophedkejgedaaDoorAi
end

section
/- MADE BY PROGRAM (wip/tools/gen.py): the abstract code of functions. -/
namespace Go.Proofs.YtgophedkejgedaaDoorAi
open Go AC AOp Opd
set_option linter.unusedVariables false
set_option maxRecDepth 100000
def c_impl_sizeOk : AC := seq (reg [⟨(some 2), mv (c (.bool false)), none⟩]) (seq (reg [⟨(some 3), mv (t 0), none⟩, ⟨(some 4), callq (c (.fn 62 [])) [t 3, c (.int .i64 0), c (.int .i64 5)], none⟩, ⟨(some 2), mv (t 4), none⟩]) (ret))
def r_impl_sizeOk : List ARes := [.tmp 2]
theorem k_impl_sizeOk : acLin Go.Proofs.Tryd.prog 82 1 (inQ [62] []) [] = some (c_impl_sizeOk, r_impl_sizeOk) := by kernel_rfl
def c_spec_l01Bit : AC := seq (reg [⟨(some 4), mv (c (.int .u32 0)), none⟩]) (seq (seq (reg [⟨(some 5), mv (t 0), none⟩, ⟨(some 6), mv (t 1), none⟩, ⟨(some 7), bin .gtr (t 5) (t 6), none⟩]) (cond (t 7) (seq (reg [⟨(some 8), mv (t 1), none⟩, ⟨(some 9), mv (t 0), none⟩, ⟨(some 10), callq (c (.fn 156 [])) [t 8, t 9], none⟩, ⟨(some 4), mv (t 10), none⟩]) (ret)) (skip))) (seq (reg [⟨(some 11), mv (t 1), none⟩, ⟨(some 12), callq (c (.fn 123 [])) [t 11], none⟩, ⟨(some 13), mv (t 0), none⟩, ⟨(some 14), bin .add (t 12) (t 13), none⟩, ⟨(some 15), conv .u64 (t 14), none⟩, ⟨(some 16), bin .shl (c (.int .u32 1)) (t 15), none⟩, ⟨(some 4), mv (t 16), none⟩]) (ret)))
def r_spec_l01Bit : List ARes := [.tmp 4]
theorem k_spec_l01Bit : acLin Go.Proofs.Tryd.prog 156 2 (inQ [123, 156] []) [] = some (c_spec_l01Bit, r_spec_l01Bit) := by kernel_rfl
def c_spec_l01Joined : AC := seq (reg [⟨(some 3), box 2 (t 0), none⟩, ⟨(some 6), mv (c (.bool false)), none⟩]) (seq (reg [⟨(some 7), mv (t 1), none⟩, ⟨(some 8), mv (t 2), none⟩, ⟨(some 9), bin .neq (t 7) (t 8), none⟩, ⟨(some 10), mv (t 9), none⟩, ⟨(some 11), fad (t 3) 1, some (10, true)⟩, ⟨(some 12), ld (t 11) 1 false, some (10, true)⟩, ⟨(some 13), mv (t 1), some (10, true)⟩, ⟨(some 14), mv (t 2), some (10, true)⟩, ⟨(some 15), callq (c (.fn 156 [])) [t 13, t 14], some (10, true)⟩, ⟨(some 16), bin .and (t 12) (t 15), some (10, true)⟩, ⟨(some 17), bin .neq (t 16) (c (.int .u32 0)), some (10, true)⟩, ⟨(some 18), pick (t 10) (t 17) (c (.bool false)), none⟩, ⟨(some 6), mv (t 18), none⟩]) (ret))
def r_spec_l01Joined : List ARes := [.tmp 6]
theorem k_spec_l01Joined : acLin Go.Proofs.Tryd.prog 155 3 (inQ [156] []) [⟨false, none, [], [], none⟩, ⟨false, some [0, 1, 2, 3, 4, 5, 6, 7, 8, 9, 10, 11, 12], [], [], none⟩] = some (c_spec_l01Joined, r_spec_l01Joined) := by kernel_rfl
end Go.Proofs.YtgophedkejgedaaDoorAi
end

section
/- Contracts: joined parts of patterns. (Under way.) -/
namespace Go.Proofs.YtgophedkejgedaaDoorAi
open Go Go.RowKit
set_option linter.unusedVariables false
set_option linter.unusedSimpArgs false
set_option maxRecDepth 20000

noncomputable def sp_sizeOk : List AV → Option (AV) := pf (ι := (Int)) (α := AV) (fun n => True) (fun n => [.int .i64 n]) (fun n => .bool (decide (0 ≤ n) && decide (n ≤ 5)))
theorem sp_sizeOk_eq (n : Int) : sp_sizeOk [.int .i64 n] = some (.bool (decide (0 ≤ n) && decide (n ≤ 5))) := by
  unfold sp_sizeOk
  exact pf_eq (ι := (Int)) (α := AV) n trivial (by rintro n' _ e; simp_all [Int.natCast_inj])
attribute [simp] sp_sizeOk_eq
theorem q_impl_sizeOk : QP PP 82 sp_sizeOk := by
  refine QP_pf (fun n h => ?_) fun n h => ?_
  · exact ⟨by first | rfl | simp, by first | rfl | simp⟩
  replace h : True := h
  refine P_code (Quiet.q1 q_impl_in Quiet.nil) hmix k_impl_sizeOk rfl ?_ ?_
  · first | rfl | simp
  show wpc 0 PP _ c_impl_sizeOk (initSt [.int .i64 n] .nil) (endP r_impl_sizeOk (.bool (decide (0 ≤ n) && decide (n ≤ 5))))
  simp -dsimp -implicitDefEqProofs [c_impl_sizeOk, r_impl_sizeOk]
theorem shrBit {l i : Nat} (hl : l < 4294967296) (hi : i < 5) : (IntKind.u32.wrap ((((l : Int).fdiv (2 ^ min i IntKind.u32.bits) % 2 ^ IntKind.u32.bits).toNat &&& 1 % 2 ^ IntKind.u32.bits : Nat)) == 1) = l.testBit i := by
  have e0 : min i IntKind.u32.bits = i := Nat.min_eq_left (by simp only [IntKind.bits]; omega)
  have e1 : (2 : Int) ^ i = ((2 ^ i : Nat) : Int) := by simp
  have hq : l / 2 ^ i ≤ l := Nat.div_le_self _ _
  have e2 : ((l : Int).fdiv (2 ^ i) % 2 ^ IntKind.u32.bits).toNat = l / 2 ^ i := by
    rw [e1]
    generalize 2 ^ i = c at hq
    rw [Int.fdiv_eq_ediv_of_nonneg _ (Int.natCast_nonneg c), ← Int.natCast_ediv]
    generalize l / c = d at hq
    rw [Int.emod_eq_of_lt (by omega) (by simp only [IntKind.bits]; omega)]
    simp
  rw [e0, e2, show (1 : Nat) % 2 ^ IntKind.u32.bits = 1 from rfl, Nat.and_one_is_mod, wrap32 (by omega) (by omega), Nat.testBit_eq_decide_div_mod_eq]
  generalize l / 2 ^ i = d
  rw [Bool.eq_iff_iff, beq_iff_eq, decide_eq_true_eq]
  omega
def loopB (l i : Int) : Bool := l.toNat.testBit i.toNat
noncomputable def sp_loopP : List (Option (List AV)) → List AV → Option (AV × List (Option (List AV))) := pv (pf (ι := (Int) × (Int) × (Int) × (List Fr) × (Int)) (α := AV × List (Option (List AV))) (fun ⟨n, e, l, ps, i⟩ => (0 ≤ l ∧ l ≤ 4294967295) ∧ (0 ≤ i ∧ i < 5)) (fun i => .agg (((fun ⟨n, e, l, ps, i⟩ => [some [.int .i64 n, .int .u32 e, .int .u32 l, .sl (frsA ps) false]] : (Int) × (Int) × (Int) × (List Fr) × (Int) → List (Option (List AV))) i).map enO) :: (fun ⟨n, e, l, ps, i⟩ => [.ptr 0 0, .int .i64 i] : (Int) × (Int) × (Int) × (List Fr) × (Int) → List AV) i) (fun ⟨n, e, l, ps, i⟩ => (.bool (loopB l i), [some [.int .i64 n, .int .u32 e, .int .u32 l, .sl (frsA ps) false]])))
theorem sp_loopP_eq (n e l : Int) (ps : List Fr) (i : Int) (h : (0 ≤ l ∧ l ≤ 4294967295) ∧ (0 ≤ i ∧ i < 5)) : sp_loopP [some [.int .i64 n, .int .u32 e, .int .u32 l, .sl (frsA ps) false]] [.ptr 0 0, .int .i64 i] = some (.bool (loopB l i), [some [.int .i64 n, .int .u32 e, .int .u32 l, .sl (frsA ps) false]]) := by
  unfold sp_loopP pv
  exact pf_eq (ι := (Int) × (Int) × (Int) × (List Fr) × (Int)) (α := AV × List (Option (List AV))) (n, e, l, ps, i) h (by rintro ⟨n', e', l', ps', i'⟩ _ e; simp_all [enO, Int.natCast_inj])
def joinB (e l i j : Int) : Bool := if i = j then loopB l i else hasB e i j
noncomputable def sp_joinP : List (Option (List AV)) → List AV → Option (AV × List (Option (List AV))) := pv (pf (ι := (Int) × (Int) × (Int) × (List Fr) × (Int) × (Int)) (α := AV × List (Option (List AV))) (fun ⟨n, e, l, ps, i, j⟩ => ((0 ≤ e ∧ e ≤ 4294967295) ∧ (0 ≤ l ∧ l ≤ 4294967295)) ∧ (0 ≤ i ∧ i < 5) ∧ (0 ≤ j ∧ j < 5)) (fun i => .agg (((fun ⟨n, e, l, ps, i, j⟩ => [some [.int .i64 n, .int .u32 e, .int .u32 l, .sl (frsA ps) false]] : (Int) × (Int) × (Int) × (List Fr) × (Int) × (Int) → List (Option (List AV))) i).map enO) :: (fun ⟨n, e, l, ps, i, j⟩ => [.ptr 0 0, .int .i64 i, .int .i64 j] : (Int) × (Int) × (Int) × (List Fr) × (Int) × (Int) → List AV) i) (fun ⟨n, e, l, ps, i, j⟩ => (.bool (joinB e l i j), [some [.int .i64 n, .int .u32 e, .int .u32 l, .sl (frsA ps) false]])))
theorem sp_joinP_eq (n e l : Int) (ps : List Fr) (i j : Int) (h : ((0 ≤ e ∧ e ≤ 4294967295) ∧ (0 ≤ l ∧ l ≤ 4294967295)) ∧ (0 ≤ i ∧ i < 5) ∧ (0 ≤ j ∧ j < 5)) : sp_joinP [some [.int .i64 n, .int .u32 e, .int .u32 l, .sl (frsA ps) false]] [.ptr 0 0, .int .i64 i, .int .i64 j] = some (.bool (joinB e l i j), [some [.int .i64 n, .int .u32 e, .int .u32 l, .sl (frsA ps) false]]) := by
  unfold sp_joinP pv
  exact pf_eq (ι := (Int) × (Int) × (Int) × (List Fr) × (Int) × (Int)) (α := AV × List (Option (List AV))) (n, e, l, ps, i, j) h (by rintro ⟨n', e', l', ps', i', j'⟩ _ e; simp_all [enO, Int.natCast_inj])
end Go.Proofs.YtgophedkejgedaaDoorAi
end

section
/- Contracts: joined vertices, as the reference has them. (Under way.) -/
namespace Go.Proofs.YtgophedkejgedaaDoorAi
open Go Go.RowKit
set_option linter.unusedVariables false
set_option linter.unusedSimpArgs false
set_option maxRecDepth 20000

/-- A contract that says nothing: for a call that does not come. -/
theorem QP.none (P : Program) (f : FuncId) : QP P f (fun _ => Option.none) := fun _ _ h => by cases h
noncomputable def sp_bitLe : List AV → Option (AV) := pf (ι := (Int) × (Int)) (α := AV) (fun ⟨i, j⟩ => (0 ≤ i ∧ i ≤ 5) ∧ (0 ≤ j ∧ j ≤ 5) ∧ i ≤ j) (fun ⟨i, j⟩ => [.int .i64 i, .int .i64 j]) (fun ⟨i, j⟩ => .int .u32 (2 ^ bitI i.toNat j.toNat))
theorem sp_bitLe_eq (i j : Int) (h : (0 ≤ i ∧ i ≤ 5) ∧ (0 ≤ j ∧ j ≤ 5) ∧ i ≤ j) : sp_bitLe [.int .i64 i, .int .i64 j] = some (.int .u32 (2 ^ bitI i.toNat j.toNat)) := by
  unfold sp_bitLe
  exact pf_eq (ι := (Int) × (Int)) (α := AV) (i, j) h (by rintro ⟨i', j'⟩ _ e; simp_all [Int.natCast_inj])
theorem q_bitLe : QP PP 156 sp_bitLe := by
  refine QP_pf (fun i h => ?_) fun i h => ?_
  · obtain ⟨i, j⟩ := i; exact ⟨rfl, rfl⟩
  obtain ⟨i, j⟩ := i
  replace h : (0 ≤ i ∧ i ≤ 5) ∧ (0 ≤ j ∧ j ≤ 5) ∧ i ≤ j := h
  refine P_code (Quiet.q1 (QP.none PP 156) (Quiet.q1 q_spec_l01Bits Quiet.nil)) hmix k_spec_l01Bit rfl rfl ?_
  obtain ⟨⟨i0, i1⟩, ⟨j0, j1⟩, hij⟩ := h
  have hj : j = 0 ∨ j = 1 ∨ j = 2 ∨ j = 3 ∨ j = 4 ∨ j = 5 := by omega
  have hi : i = 0 ∨ i = 1 ∨ i = 2 ∨ i = 3 ∨ i = 4 ∨ i = 5 := by omega
  rcases hi with rfl | rfl | rfl | rfl | rfl | rfl <;> rcases hj with rfl | rfl | rfl | rfl | rfl | rfl <;> first | (exfalso; omega) | simp -dsimp -implicitDefEqProofs [c_spec_l01Bit, r_spec_l01Bit, sp_pairs_eq, pI0, pI1, pI2, pI3, pI4, pI5, bitI, IntKind.wrap, IntKind.bits, IntKind.signed]
theorem q_spec_l01Bit : QP PP 156 sp_bit := by
  refine QP_pf (fun i h => ?_) fun i h => ?_
  · obtain ⟨i, j⟩ := i; exact ⟨rfl, rfl⟩
  obtain ⟨i, j⟩ := i
  replace h : (0 ≤ i ∧ i ≤ 5) ∧ (0 ≤ j ∧ j ≤ 5) := h
  by_cases hij : i ≤ j
  · exact (q_bitLe _ _ (sp_bitLe_eq i j ⟨h.1, h.2, hij⟩)).2
  · refine P_code (Quiet.q1 q_bitLe (Quiet.q1 q_spec_l01Bits Quiet.nil)) hmix k_spec_l01Bit rfl rfl ?_
    have hlt : j < i := by omega
    simp -dsimp -implicitDefEqProofs [c_spec_l01Bit, r_spec_l01Bit, hlt, sp_bitLe_eq j i ⟨h.2, h.1, by omega⟩, bitI_c (i := j.toNat) (j := i.toNat)]
def joinedB (e i j : Int) : Bool := decide (i ≠ j) && hasB e i j
noncomputable def sp_l01Joined : List AV → Option (AV) := pf (ι := (Int) × (Int) × (Int) × (Int)) (α := AV) (fun ⟨n, e, i, j⟩ => (0 ≤ e ∧ e ≤ 4294967295) ∧ (0 ≤ i ∧ i < 5) ∧ (0 ≤ j ∧ j < 5)) (fun ⟨n, e, i, j⟩ => [.agg [.int .i64 n, .int .u32 e], .int .i64 i, .int .i64 j]) (fun ⟨n, e, i, j⟩ => .bool (joinedB e i j))
theorem sp_l01Joined_eq (n e i j : Int) (h : (0 ≤ e ∧ e ≤ 4294967295) ∧ (0 ≤ i ∧ i < 5) ∧ (0 ≤ j ∧ j < 5)) : sp_l01Joined [.agg [.int .i64 n, .int .u32 e], .int .i64 i, .int .i64 j] = some (.bool (joinedB e i j)) := by
  unfold sp_l01Joined
  exact pf_eq (ι := (Int) × (Int) × (Int) × (Int)) (α := AV) (n, e, i, j) h (by rintro ⟨n', e', i', j'⟩ _ e; simp_all [Int.natCast_inj])
theorem q_spec_l01Joined : QP PP 155 sp_l01Joined := by
  refine QP_pf (fun i h => ?_) fun i h => ?_
  · obtain ⟨n, e, i, j⟩ := i; exact ⟨by first | rfl | simp, by first | rfl | simp⟩
  obtain ⟨n, e, i, j⟩ := i
  replace h : (0 ≤ e ∧ e ≤ 4294967295) ∧ (0 ≤ i ∧ i < 5) ∧ (0 ≤ j ∧ j < 5) := h
  refine P_code (Quiet.q1 q_spec_l01Bit Quiet.nil) hmix k_spec_l01Joined rfl ?_ ?_
  · first | rfl | simp
  show wpc 0 PP _ c_spec_l01Joined (initSt [.agg [.int .i64 n, .int .u32 e], .int .i64 i, .int .i64 j] .nil) (endP r_spec_l01Joined (.bool (joinedB e i j)))
  obtain ⟨⟨e0, e1⟩, ⟨i0, i1⟩, ⟨j0, j1⟩⟩ := h
  by_cases hij : i = j
  · subst hij
    simp -dsimp -implicitDefEqProofs [c_spec_l01Joined, r_spec_l01Joined, joinedB]
  · obtain ⟨m, rfl⟩ := Int.eq_ofNat_of_zero_le e0
    have hb := andBit (a := m) (b := bitI i.toNat j.toNat) (by omega) (bitI_10 (by omega) (by omega) (by omega))
    have hn : (i != j) = true := by simpa using hij
    simp -dsimp -implicitDefEqProofs [c_spec_l01Joined, r_spec_l01Joined, hn, sp_bit_eq i j (by omega), hb, joinedB, hasB, hij]
    have hp : (2 : Int) ^ bitI i.toNat j.toNat ≠ 0 := Int.pow_ne_zero (by omega)
    cases m.testBit (bitI i.toNat j.toNat) <;> simp [hp]
end Go.Proofs.YtgophedkejgedaaDoorAi
end

section
/- Contracts: opposite patterns. -/
namespace Go.Proofs.YtgophedkejgedaaDoorAi
open Go Go.RowKit
set_option linter.unusedVariables false
set_option linter.unusedSimpArgs false
set_option maxRecDepth 20000

theorem xorU {a b : Nat} (ha : a < 4294967296) (hb : b < 4294967296) : IntKind.u32.wrap ((((a : Int) % 2 ^ IntKind.u32.bits).toNat ^^^ ((b : Int) % 2 ^ IntKind.u32.bits).toNat : Nat)) = ((a ^^^ b : Nat) : Int) := by
  have e : ∀ c : Nat, c < 4294967296 → ((c : Int) % 2 ^ IntKind.u32.bits).toNat = c := fun c hc => by
    rw [Int.emod_eq_of_lt (by omega) (by simp only [IntKind.bits]; omega)]
    simp
  rw [e a ha, e b hb]
  have := Nat.xor_lt_two_pow (n := 32) (x := a) (y := b) (by omega) (by omega)
  exact wrap32 (by omega) (by omega)
theorem xorN {a b : Nat} (ha : a < 4294967296) (hb : b < 4294967296) : IntKind.u32.wrap ((a % 2 ^ IntKind.u32.bits ^^^ b % 2 ^ IntKind.u32.bits : Nat)) = ((a ^^^ b : Nat) : Int) := by
  rw [Nat.mod_eq_of_lt (by simp only [IntKind.bits]; omega), Nat.mod_eq_of_lt (by simp only [IntKind.bits]; omega)]
  have := Nat.xor_lt_two_pow (n := 32) (x := a) (y := b) (by omega) (by omega)
  exact wrap32 (by omega) (by omega)
theorem graphOk_lt {n e : Int} (h : graphOk n e = true) (he : 0 ≤ e) : (0 ≤ n ∧ n ≤ 5) ∧ e.toNat < 2 ^ (n.toNat * (n.toNat - 1) / 2) := by
  obtain ⟨hn, hlt⟩ := of_decide_eq_true h
  refine ⟨hn, ?_⟩
  obtain ⟨m, rfl⟩ := Int.eq_ofNat_of_zero_le he
  rcases tri_pow hn with rfl | rfl | rfl | rfl | rfl | rfl <;> simp [pI0, pI1, pI2, pI3, pI4, pI5] at hlt ⊢ <;> omega
def oppG (n e : Int) : AV := if graphOk n e = true then .tup [.agg [.int .i64 n, .int .u32 (notE e n)], .int .i64 0] else .tup [.agg [.int .i64 0, .int .u32 0], .int .i64 1]
@[simp] theorem oppG_lt (n e : Int) (k : Nat) : (oppG n e).lt k = true := by unfold oppG; split <;> rfl
noncomputable def sp_oppG : List AV → Option (AV) := pf (ι := (Int) × (Int)) (α := AV) (fun ⟨n, e⟩ => 0 ≤ e ∧ e ≤ 4294967295) (fun ⟨n, e⟩ => [.agg [.int .i64 n, .int .u32 e]]) (fun ⟨n, e⟩ => oppG n e)
theorem sp_oppG_eq (n e : Int) (h : 0 ≤ e ∧ e ≤ 4294967295) : sp_oppG [.agg [.int .i64 n, .int .u32 e]] = some (oppG n e) := by
  unfold sp_oppG
  exact pf_eq (ι := (Int) × (Int)) (α := AV) (n, e) h (by rintro ⟨n', e'⟩ _ e; simp_all [Int.natCast_inj])
noncomputable def sp_l07Copy : List AV → List AV → Option (AV × List (Option (List AV))) := pb (pf (ι := (Int) × (Int) × (Int) × (List Fr)) (α := AV × List (Option (List AV))) (fun ⟨n, e, l, ps⟩ => ps ≠ [] ∧ ps.length ≤ 1048576) (fun i => .agg ((fun ⟨n, e, l, ps⟩ => [.int .i64 n, .int .u32 e, .int .u32 l, .sl (frsA ps) false] : (Int) × (Int) × (Int) × (List Fr) → List AV) i) :: (fun ⟨n, e, l, ps⟩ => [.ptr 0 0] : (Int) × (Int) × (Int) × (List Fr) → List AV) i) (fun ⟨n, e, l, ps⟩ => (.agg [.int .i64 n, .int .u32 e, .int .u32 l, .ref 1 2 0 ps.length .full], [some [.int .i64 n, .int .u32 e, .int .u32 l, .sl (frsA ps) false], some (flatA (frsA ps))])))
theorem sp_l07Copy_eq (n e l : Int) (ps : List Fr) (h : ps ≠ [] ∧ ps.length ≤ 1048576) : sp_l07Copy [.int .i64 n, .int .u32 e, .int .u32 l, .sl (frsA ps) false] [.ptr 0 0] = some (.agg [.int .i64 n, .int .u32 e, .int .u32 l, .ref 1 2 0 ps.length .full], [some [.int .i64 n, .int .u32 e, .int .u32 l, .sl (frsA ps) false], some (flatA (frsA ps))]) := by
  unfold sp_l07Copy pb
  exact pf_eq (ι := (Int) × (Int) × (Int) × (List Fr)) (α := AV × List (Option (List AV))) (n, e, l, ps) h (by rintro ⟨n', e', l', ps'⟩ _ e; simp_all [Int.natCast_inj])
noncomputable def sp_cloneFr : List AV → Option (AV × List (Option (List AV))) := pf (ι := (List Fr)) (α := AV × List (Option (List AV))) (fun ps => ps ≠ [] ∧ ps.length ≤ 1048576) (fun ps => [.sl (frsA ps) false]) (fun ps => (.ref 0 2 0 ps.length .full, [some (flatA (frsA ps))]))
theorem sp_cloneFr_eq (ps : List Fr) (h : ps ≠ [] ∧ ps.length ≤ 1048576) : sp_cloneFr [.sl (frsA ps) false] = some ((.ref 0 2 0 ps.length .full, [some (flatA (frsA ps))])) := by
  unfold sp_cloneFr
  exact pf_eq (ι := (List Fr)) (α := AV × List (Option (List AV))) ps h (by rintro ps' _ e; simp_all [Int.natCast_inj])
end Go.Proofs.YtgophedkejgedaaDoorAi
end

section
/- Contracts: marks in patterns. -/
namespace Go.Proofs.YtgophedkejgedaaDoorAi
open Go Go.RowKit
set_option linter.unusedVariables false
set_option linter.unusedSimpArgs false
set_option maxRecDepth 20000

def kOk (k : Int) : Prop := 0 ≤ k ∧ k ≤ 1099511627776
noncomputable def sp_markFr : List (Option (List AV)) → List AV → Option (AV × List (Option (List AV))) := pv (pf (ι := (List Fr) × (Int) × (Cp)) (α := AV × List (Option (List AV))) (fun ⟨ps, k, t⟩ => kOk k ∧ ps.length ≤ 1048576) (fun i => .agg (((fun ⟨ps, k, t⟩ => [some (flatA (frsA ps))] : (List Fr) × (Int) × (Cp) → List (Option (List AV))) i).map enO) :: (fun ⟨ps, k, t⟩ => [.ref 0 2 0 ps.length t, .int .i64 k] : (List Fr) × (Int) × (Cp) → List AV) i) (fun ⟨ps, k, t⟩ => (.int .i64 (k + 2 * ps.length), [some (flatA (frsA (marksF ps.length k)))])))
theorem sp_markFr_eq (ps : List Fr) (k : Int) (t : Cp) (h : kOk k ∧ ps.length ≤ 1048576) : sp_markFr [some (flatA (frsA ps))] [.ref 0 2 0 ps.length t, .int .i64 k] = some (.int .i64 (k + 2 * ps.length), [some (flatA (frsA (marksF ps.length k)))]) := by
  unfold sp_markFr pv
  exact pf_eq (ι := (List Fr) × (Int) × (Cp)) (α := AV × List (Option (List AV))) (ps, k, t) h (by rintro ⟨ps', k', t'⟩ _ e; simp_all [enO, Int.natCast_inj])
noncomputable def sp_markFr0 : List AV → Option (AV) := pf (ι := (Int)) (α := AV) (fun k => True) (fun k => [.sl [] false, .int .i64 k]) (fun k => .int .i64 k)
theorem sp_markFr0_eq (k : Int) : sp_markFr0 [.sl [] false, .int .i64 k] = some (.int .i64 k) := by
  unfold sp_markFr0
  exact pf_eq (ι := (Int)) (α := AV) k trivial (by rintro k' _ e; simp_all [Int.natCast_inj])
attribute [simp] sp_markFr0_eq
noncomputable def sp_heldFr : List AV → Option (AV) := pf (ι := (Nat) × (Int)) (α := AV) (fun ⟨n, k⟩ => kOk k ∧ n ≤ 1048576) (fun ⟨n, k⟩ => [.sl (frsA (marksF n k)) false, .int .i64 k]) (fun ⟨n, k⟩ => .int .i64 (k + 2 * n))
theorem sp_heldFr_eq (n : Nat) (k : Int) (h : kOk k ∧ n ≤ 1048576) : sp_heldFr [.sl (frsA (marksF n k)) false, .int .i64 k] = some (.int .i64 (k + 2 * n)) := by
  unfold sp_heldFr
  exact pf_eq (ι := (Nat) × (Int)) (α := AV) (n, k) h (by rintro ⟨n', k'⟩ _ e; simp_all [Int.natCast_inj])
noncomputable def sp_markPat : List (Option (List AV)) → List AV → Option (AV × List (Option (List AV))) := pv (pf (ι := (Int) × (Int) × (Int) × (List Fr) × (Int) × (Cp)) (α := AV × List (Option (List AV))) (fun ⟨a, b, c, ps, k, t⟩ => kOk k ∧ ps.length ≤ 1048576) (fun i => .agg (((fun ⟨a, b, c, ps, k, t⟩ => [some (flatA (frsA ps))] : (Int) × (Int) × (Int) × (List Fr) × (Int) × (Cp) → List (Option (List AV))) i).map enO) :: (fun ⟨a, b, c, ps, k, t⟩ => [.agg [.int .i64 a, .int .u32 b, .int .u32 c, .ref 0 2 0 ps.length t], .int .i64 k] : (Int) × (Int) × (Int) × (List Fr) × (Int) × (Cp) → List AV) i) (fun ⟨a, b, c, ps, k, t⟩ => (.int .i64 (k + 2 * ps.length), [some (flatA (frsA (marksF ps.length k)))])))
theorem sp_markPat_eq (a b c : Int) (ps : List Fr) (k : Int) (t : Cp) (h : kOk k ∧ ps.length ≤ 1048576) : sp_markPat [some (flatA (frsA ps))] [.agg [.int .i64 a, .int .u32 b, .int .u32 c, .ref 0 2 0 ps.length t], .int .i64 k] = some (.int .i64 (k + 2 * ps.length), [some (flatA (frsA (marksF ps.length k)))]) := by
  unfold sp_markPat pv
  exact pf_eq (ι := (Int) × (Int) × (Int) × (List Fr) × (Int) × (Cp)) (α := AV × List (Option (List AV))) (a, b, c, ps, k, t) h (by rintro ⟨a', b', c', ps', k', t'⟩ _ e; simp_all [enO, Int.natCast_inj])
noncomputable def sp_markPat0 : List AV → Option (AV) := pf (ι := (Int) × (Int) × (Int) × (Int)) (α := AV) (fun ⟨a, b, c, k⟩ => True) (fun ⟨a, b, c, k⟩ => [.agg [.int .i64 a, .int .u32 b, .int .u32 c, .sl [] false], .int .i64 k]) (fun ⟨a, b, c, k⟩ => .int .i64 k)
theorem sp_markPat0_eq (a b c k : Int) : sp_markPat0 [.agg [.int .i64 a, .int .u32 b, .int .u32 c, .sl [] false], .int .i64 k] = some (.int .i64 k) := by
  unfold sp_markPat0
  exact pf_eq (ι := (Int) × (Int) × (Int) × (Int)) (α := AV) (a, b, c, k) trivial (by rintro ⟨a', b', c', k'⟩ _ e; simp_all [Int.natCast_inj])
attribute [simp] sp_markPat0_eq
noncomputable def sp_heldPat : List AV → Option (AV) := pf (ι := (Int) × (Int) × (Int) × (Nat) × (Int)) (α := AV) (fun ⟨a, b, c, n, k⟩ => kOk k ∧ n ≤ 1048576) (fun ⟨a, b, c, n, k⟩ => [.agg [.int .i64 a, .int .u32 b, .int .u32 c, .sl (frsA (marksF n k)) false], .int .i64 k]) (fun ⟨a, b, c, n, k⟩ => .int .i64 (k + 2 * n))
theorem sp_heldPat_eq (a b c : Int) (n : Nat) (k : Int) (h : kOk k ∧ n ≤ 1048576) : sp_heldPat [.agg [.int .i64 a, .int .u32 b, .int .u32 c, .sl (frsA (marksF n k)) false], .int .i64 k] = some (.int .i64 (k + 2 * n)) := by
  unfold sp_heldPat
  exact pf_eq (ι := (Int) × (Int) × (Int) × (Nat) × (Int)) (α := AV) (a, b, c, n, k) h (by rintro ⟨a', b', c', n', k'⟩ _ e; simp_all [Int.natCast_inj])
end Go.Proofs.YtgophedkejgedaaDoorAi
end

section
/- Contracts: the pattern of opposite graphs. -/
namespace Go.Proofs.YtgophedkejgedaaDoorAi
open Go Go.RowKit
set_option linter.unusedVariables false
set_option linter.unusedSimpArgs false
set_option maxRecDepth 20000

def oppR (n e l : Int) (ps : List Fr) : AV × List (Option (List AV)) :=
  if patOk n e l ps = true then (.tup [.agg [.int .i64 n, .int .u32 (notE e n), .int .u32 (2 ^ n.toNat - 1 - l), .ref 0 2 0 ps.length .full], .int .i64 0], [some (flatA (frsA ps))])
  else (noPat 1, [])
theorem xor_ones {w l : Nat} (h : l < 2 ^ w) : (2 ^ w - 1) ^^^ l = 2 ^ w - 1 - l := by
  have h1 : (BitVec.allOnes w ^^^ BitVec.ofNat w l).toNat = (~~~(BitVec.ofNat w l)).toNat := by rw [BitVec.not_def]
  rw [BitVec.toNat_xor, BitVec.toNat_allOnes, BitVec.toNat_not, BitVec.toNat_ofNat, Nat.mod_eq_of_lt h] at h1
  exact h1
theorem not32 {l : Int} (h0 : 0 ≤ l) (h : l ≤ 4294967295) : IntKind.u32.wrap (((if IntKind.u32.signed = true then -1 else IntKind.u32.max) % 2 ^ IntKind.u32.bits).toNat ^^^ (l % 2 ^ IntKind.u32.bits).toNat : Nat) = 4294967295 - l := by
  obtain ⟨m, rfl⟩ := Int.eq_ofNat_of_zero_le h0
  have e : ((if IntKind.u32.signed = true then -1 else IntKind.u32.max) % 2 ^ IntKind.u32.bits).toNat ^^^ ((m : Int) % 2 ^ IntKind.u32.bits).toNat = (2 ^ 32 - 1) ^^^ m := by
    have e2 : ((m : Int) % 2 ^ IntKind.u32.bits).toNat = m := by
      rw [Int.emod_eq_of_lt (by omega) (by simp only [IntKind.bits]; omega)]
      simp
    rw [e2]
    rfl
  rw [e, xor_ones (by omega)]
  exact (wrap32 (by omega) (by omega)).trans (by omega)
theorem mask32 {l c : Int} {w : Nat} (hw : w ≤ 4) (hc : c = 2 ^ w - 1) (h0 : 0 ≤ l) (h : l < 2 ^ w) : IntKind.u32.wrap (((4294967295 - l) % 2 ^ IntKind.u32.bits).toNat &&& (c % 2 ^ IntKind.u32.bits).toNat : Nat) = 2 ^ w - 1 - l := by
  obtain ⟨m, rfl⟩ := Int.eq_ofNat_of_zero_le h0
  subst hc
  have h5 : w = 0 ∨ w = 1 ∨ w = 2 ∨ w = 3 ∨ w = 4 := by omega
  have e : ((4294967295 - (m : Int)) % 2 ^ IntKind.u32.bits).toNat = 4294967295 - m := by
    have : m < 16 := by rcases h5 with rfl | rfl | rfl | rfl | rfl <;> omega
    rw [Int.emod_eq_of_lt (by omega) (by simp only [IntKind.bits]; omega)]
    omega
  rw [e]
  have key : ∀ w : Nat, w ≤ 4 → ∀ m : Nat, m < 2 ^ w → (4294967295 - m) &&& (2 ^ w - 1) = 2 ^ w - 1 - m := by decide
  have hk := key w hw m (by have : ((2 ^ w : Nat) : Int) = 2 ^ w := by simp
                            omega)
  have e2 : (((2 : Int) ^ w - 1) % 2 ^ IntKind.u32.bits).toNat = 2 ^ w - 1 := by rcases h5 with rfl | rfl | rfl | rfl | rfl <;> rfl
  rw [e2, hk]
  rcases h5 with rfl | rfl | rfl | rfl | rfl <;> exact (wrap32 (by omega) (by omega)).trans (by omega)
theorem xorL {l c : Int} {w : Nat} (hw : w ≤ 4) (hc : c = 2 ^ w - 1) (h0 : 0 ≤ l) (h : l < 2 ^ w) : IntKind.u32.wrap ((c % 2 ^ IntKind.u32.bits).toNat ^^^ (l % 2 ^ IntKind.u32.bits).toNat : Nat) = 2 ^ w - 1 - l := by
  obtain ⟨m, rfl⟩ := Int.eq_ofNat_of_zero_le h0
  subst hc
  have h5 : w = 0 ∨ w = 1 ∨ w = 2 ∨ w = 3 ∨ w = 4 := by omega
  have hm : m < 2 ^ w := by have : ((2 ^ w : Nat) : Int) = 2 ^ w := by simp
                            omega
  have e : ((m : Int) % 2 ^ IntKind.u32.bits).toNat = m := by
    have : m < 16 := by rcases h5 with rfl | rfl | rfl | rfl | rfl <;> omega
    rw [Int.emod_eq_of_lt (by omega) (by simp only [IntKind.bits]; omega)]
    simp
  have e2 : (((2 : Int) ^ w - 1) % 2 ^ IntKind.u32.bits).toNat = 2 ^ w - 1 := by rcases h5 with rfl | rfl | rfl | rfl | rfl <;> rfl
  rw [e, e2, xor_ones hm]
  rcases h5 with rfl | rfl | rfl | rfl | rfl <;> exact (wrap32 (by omega) (by omega)).trans (by omega)
theorem patOk_spec {n e l : Int} {ps : List Fr} (h : patOk n e l ps = true) : graphOk n e = true ∧ (1 ≤ n ∧ n ≤ 4) ∧ l < 2 ^ n.toNat ∧ (ps.length : Int) = n ∧ allOk ps = true := by
  simp only [patOk, Bool.and_eq_true, decide_eq_true_eq] at h
  obtain ⟨⟨⟨⟨⟨h1, h2⟩, h3⟩, h4⟩, _⟩, _⟩ := h
  obtain ⟨h5, h6⟩ := of_decide_eq_true h2
  exact ⟨h1, h5, h6, h3, h4⟩
noncomputable def sp_oppP : List AV → Option (AV × List (Option (List AV))) := pf (ι := (Int) × (Int) × (Int) × (List Fr)) (α := AV × List (Option (List AV))) (fun ⟨n, e, l, ps⟩ => (0 ≤ e ∧ e ≤ 4294967295) ∧ (0 ≤ l ∧ l ≤ 4294967295) ∧ ps.length ≤ maxLen) (fun ⟨n, e, l, ps⟩ => [.agg [.int .i64 n, .int .u32 e, .int .u32 l, .sl (frsA ps) false]]) (fun ⟨n, e, l, ps⟩ => oppR n e l ps)
theorem sp_oppP_eq (n e l : Int) (ps : List Fr) (h : (0 ≤ e ∧ e ≤ 4294967295) ∧ (0 ≤ l ∧ l ≤ 4294967295) ∧ ps.length ≤ maxLen) : sp_oppP [.agg [.int .i64 n, .int .u32 e, .int .u32 l, .sl (frsA ps) false]] = some (oppR n e l ps) := by
  unfold sp_oppP
  exact pf_eq (ι := (Int) × (Int) × (Int) × (List Fr)) (α := AV × List (Option (List AV))) (n, e, l, ps) h (by rintro ⟨n', e', l', ps'⟩ _ e; simp_all [Int.natCast_inj])
end Go.Proofs.YtgophedkejgedaaDoorAi
end

section
/- Contracts: lists of numbers; graphs with so many vertices in each part. -/
namespace Go.Proofs.YtgophedkejgedaaDoorAi
open Go Go.RowKit
set_option linter.unusedVariables false
set_option linter.unusedSimpArgs false
set_option maxRecDepth 20000

/-! ### searching in lists -/
def idxF {α : Type} (f : α → Bool) : List α → Nat → Int
  | [], _ => -1
  | x :: r, i => if f x = true then i else idxF f r (i + 1)
theorem idxF_ge {α : Type} (f : α → Bool) : ∀ (l : List α) (i : Nat), decide (0 ≤ idxF f l i) = l.any f
  | [], _ => rfl
  | x :: r, i => by
    rw [idxF, List.any_cons]
    cases hx : f x with
    | true => simp
    | false => simp only [Bool.false_eq_true, if_false, Bool.false_or]; exact idxF_ge f r (i + 1)
theorem hsub_all {os : List (Option (List AV))} (ho : ClosedH os) : hsub (fun b => b) os.length ⟨os⟩ 0 os := by
  have := hsub_pre (r := []) (m := os.length) ho (Nat.le_refl _)
  simpa using this
theorem Sub.pre0 {os : List (Option (List AV))} {t : Nat → AV} {l : List (Nat × AV)} (ho : ClosedH os) (ht : ∀ p ∈ l, p.2.lt os.length = true ∧ t p.1 = p.2) : Sub os.length ⟨t, ⟨os⟩⟩ ⟨tl l, ⟨os⟩⟩ := Sub.keep (Nat.le_refl _) (hsub_all ho) ht
noncomputable def yesI (sp : List AV → AHeap → Option (AV × AHeap)) (caps : List AV) (A : AHeap) (x : Int) : Bool := yesOf sp ([.int .i64 x] ++ caps) A
open Classical in
noncomputable def spIdxI (g : FuncId) (sp : List AV → AHeap → Option (AV × AHeap)) : List AV → AHeap → Option (AV × AHeap)
  | [.sl xs false, .fn g' caps], A => if h : g' = g ∧ ∃ l : List Int, xs = insA l ∧ l.length ≤ maxLen ∧ ∀ x ∈ l, sp ([.int .i64 x] ++ caps) A = some (.bool (yesI sp caps A x), A)
      then some (.int .i64 (idxF (yesI sp caps A) h.2.choose 0), A) else none
  | _, _ => none
theorem spIdxI_eq {g : FuncId} {sp : List AV → AHeap → Option (AV × AHeap)} (f : Int → Bool) {l : List Int} {caps : List AV} {A : AHeap} (hl : l.length ≤ maxLen) (h : ∀ x ∈ l, sp ([.int .i64 x] ++ caps) A = some (.bool (f x), A)) :
    spIdxI g sp [.sl (insA l) false, .fn g caps] A = some (.int .i64 (idxF f l 0), A) := by
  have hy : ∀ x ∈ l, yesI sp caps A x = f x := by
    intro x hx
    unfold yesI yesOf
    rw [h x hx]
  have hc : g = g ∧ ∃ k : List Int, insA l = insA k ∧ k.length ≤ maxLen ∧ ∀ x ∈ k, sp ([.int .i64 x] ++ caps) A = some (.bool (yesI sp caps A x), A) := ⟨rfl, l, rfl, hl, fun x hx => by rw [hy x hx]; exact h x hx⟩
  unfold spIdxI
  dsimp only
  rw [dif_pos hc]
  have e : hc.2.choose = l := (insA_inj.1 hc.2.choose_spec.1).symm
  rw [e]
  have : ∀ (l : List Int) (i : Nat), (∀ x ∈ l, yesI sp caps A x = f x) → idxF (yesI sp caps A) l i = idxF f l i := by
    intro l
    induction l with
    | nil => intro _ _; rfl
    | cons x l ih => intro i h; rw [idxF, idxF, h x (List.mem_cons_self ..), ih _ fun y hy => h y (List.mem_cons_of_mem _ hy)]
  rw [this l 0 hy]
open Classical in
noncomputable def spAnyI (g : FuncId) (sp : List AV → AHeap → Option (AV × AHeap)) : List AV → AHeap → Option (AV × AHeap)
  | [.sl xs false, .fn g' caps], A => if h : g' = g ∧ looseL caps = caps ∧ ∃ l : List Int, xs = insA l ∧ l.length ≤ maxLen ∧ ∀ x ∈ l, sp ([.int .i64 x] ++ caps) A = some (.bool (yesI sp caps A x), A)
      then some (.bool (h.2.2.choose.any (yesI sp caps A)), A) else none
  | _, _ => none
theorem spAnyI_eq {g : FuncId} {sp : List AV → AHeap → Option (AV × AHeap)} (f : Int → Bool) {l : List Int} {caps : List AV} {A : AHeap} (hl : l.length ≤ maxLen) (hcl : looseL caps = caps) (h : ∀ x ∈ l, sp ([.int .i64 x] ++ caps) A = some (.bool (f x), A)) :
    spAnyI g sp [.sl (insA l) false, .fn g caps] A = some (.bool (l.any f), A) := by
  have hy : ∀ x ∈ l, yesI sp caps A x = f x := by
    intro x hx
    unfold yesI yesOf
    rw [h x hx]
  have hc : g = g ∧ looseL caps = caps ∧ ∃ k : List Int, insA l = insA k ∧ k.length ≤ maxLen ∧ ∀ x ∈ k, sp ([.int .i64 x] ++ caps) A = some (.bool (yesI sp caps A x), A) := ⟨rfl, hcl, l, rfl, hl, fun x hx => by rw [hy x hx]; exact h x hx⟩
  unfold spAnyI
  dsimp only
  rw [dif_pos hc]
  have e : hc.2.2.choose = l := (insA_inj.1 hc.2.2.choose_spec.1).symm
  rw [e]
  have : l.any (yesI sp caps A) = l.any f := by
    clear e hc h hl
    induction l with
    | nil => rfl
    | cons x l ih => rw [List.any_cons, List.any_cons, hy x (List.mem_cons_self ..), ih fun y hm => hy y (List.mem_cons_of_mem _ hm)]
  rw [this]
end Go.Proofs.YtgophedkejgedaaDoorAi
end

section
/- MADE BY PROGRAM (wip/tools/gen.py): the abstract code of functions. -/
namespace Go.Proofs.YtgophedkejgedaaDoorAi
open Go AC AOp Opd
set_option linter.unusedVariables false
set_option maxRecDepth 100000

end Go.Proofs.YtgophedkejgedaaDoorAi
end

section
/- Contracts: searching in lists of fractions and of rows; valid lists; valid matrices. -/
namespace Go.Proofs.YtgophedkejgedaaDoorAi
open Go Go.RowKit
set_option linter.unusedVariables false
set_option linter.unusedSimpArgs false
set_option maxRecDepth 20000

@[simp] def rowA (r : List Fr) : AV := .sl (frsA r) false
theorem rowA_inj0 : ∀ x y, rowA x = rowA y → x = y := by
  intro x y h
  simp only [rowA] at h
  injection h with h _
  exact frsA_inj.1 h
abbrev rowsA (M : List (List Fr)) : List AV := mapA rowA M
@[simp] theorem rowsA_inj {l k : List (List Fr)} : mapA rowA l = mapA rowA k ↔ l = k := ⟨mapA_inj rowA_inj0, fun h => by rw [h]⟩

noncomputable def yesF (sp : List AV → AHeap → Option (AV × AHeap)) (caps : List AV) (A : AHeap) (x : Fr) : Bool := yesOf sp ([.agg [.int .i64 x.p, .int .i64 x.q]] ++ caps) A
open Classical in
noncomputable def spIdxF (g : FuncId) (sp : List AV → AHeap → Option (AV × AHeap)) : List AV → AHeap → Option (AV × AHeap)
  | [.sl xs false, .fn g' caps], A => if h : g' = g ∧ ∃ l : List Fr, xs = frsA l ∧ l.length ≤ maxLen ∧ ∀ x ∈ l, sp ([.agg [.int .i64 x.p, .int .i64 x.q]] ++ caps) A = some (.bool (yesF sp caps A x), A)
      then some (.int .i64 (idxF (yesF sp caps A) h.2.choose 0), A) else none
  | _, _ => none
theorem spIdxF_eq {g : FuncId} {sp : List AV → AHeap → Option (AV × AHeap)} (f : Fr → Bool) {l : List Fr} {caps : List AV} {A : AHeap} (hl : l.length ≤ maxLen) (h : ∀ x ∈ l, sp ([.agg [.int .i64 x.p, .int .i64 x.q]] ++ caps) A = some (.bool (f x), A)) :
    spIdxF g sp [.sl (frsA l) false, .fn g caps] A = some (.int .i64 (idxF f l 0), A) := by
  have hy : ∀ x ∈ l, yesF sp caps A x = f x := by
    intro x hx
    unfold yesF yesOf
    rw [h x hx]
  have hc : g = g ∧ ∃ k : List Fr, frsA l = frsA k ∧ k.length ≤ maxLen ∧ ∀ x ∈ k, sp ([.agg [.int .i64 x.p, .int .i64 x.q]] ++ caps) A = some (.bool (yesF sp caps A x), A) := ⟨rfl, l, rfl, hl, fun x hx => by rw [hy x hx]; exact h x hx⟩
  unfold spIdxF
  dsimp only
  rw [dif_pos hc]
  have e : hc.2.choose = l := (frsA_inj.1 hc.2.choose_spec.1).symm
  rw [e]
  have : ∀ (l : List Fr) (i : Nat), (∀ x ∈ l, yesF sp caps A x = f x) → idxF (yesF sp caps A) l i = idxF f l i := by
    intro l
    induction l with
    | nil => intro _ _; rfl
    | cons x l ih => intro i h; rw [idxF, idxF, h x (List.mem_cons_self ..), ih _ fun y hy => h y (List.mem_cons_of_mem _ hy)]
  rw [this l 0 hy]
open Classical in
noncomputable def spAnyF (g : FuncId) (sp : List AV → AHeap → Option (AV × AHeap)) : List AV → AHeap → Option (AV × AHeap)
  | [.sl xs false, .fn g' caps], A => if h : g' = g ∧ looseL caps = caps ∧ ∃ l : List Fr, xs = frsA l ∧ l.length ≤ maxLen ∧ ∀ x ∈ l, sp ([.agg [.int .i64 x.p, .int .i64 x.q]] ++ caps) A = some (.bool (yesF sp caps A x), A)
      then some (.bool (h.2.2.choose.any (yesF sp caps A)), A) else none
  | _, _ => none
theorem spAnyF_eq {g : FuncId} {sp : List AV → AHeap → Option (AV × AHeap)} (f : Fr → Bool) {l : List Fr} {caps : List AV} {A : AHeap} (hl : l.length ≤ maxLen) (hcl : looseL caps = caps) (h : ∀ x ∈ l, sp ([.agg [.int .i64 x.p, .int .i64 x.q]] ++ caps) A = some (.bool (f x), A)) :
    spAnyF g sp [.sl (frsA l) false, .fn g caps] A = some (.bool (l.any f), A) := by
  have hy : ∀ x ∈ l, yesF sp caps A x = f x := by
    intro x hx
    unfold yesF yesOf
    rw [h x hx]
  have hc : g = g ∧ looseL caps = caps ∧ ∃ k : List Fr, frsA l = frsA k ∧ k.length ≤ maxLen ∧ ∀ x ∈ k, sp ([.agg [.int .i64 x.p, .int .i64 x.q]] ++ caps) A = some (.bool (yesF sp caps A x), A) := ⟨rfl, hcl, l, rfl, hl, fun x hx => by rw [hy x hx]; exact h x hx⟩
  unfold spAnyF
  dsimp only
  rw [dif_pos hc]
  have e : hc.2.2.choose = l := (frsA_inj.1 hc.2.2.choose_spec.1).symm
  rw [e]
  have : l.any (yesF sp caps A) = l.any f := by
    clear e hc h hl
    induction l with
    | nil => rfl
    | cons x l ih => rw [List.any_cons, List.any_cons, hy x (List.mem_cons_self ..), ih fun y hm => hy y (List.mem_cons_of_mem _ hm)]
  rw [this]
noncomputable def yesM (sp : List AV → AHeap → Option (AV × AHeap)) (caps : List AV) (A : AHeap) (x : (List Fr)) : Bool := yesOf sp ([.sl (frsA x) false] ++ caps) A
open Classical in
noncomputable def spIdxM (g : FuncId) (sp : List AV → AHeap → Option (AV × AHeap)) : List AV → AHeap → Option (AV × AHeap)
  | [.sl xs false, .fn g' caps], A => if h : g' = g ∧ ∃ l : List (List Fr), xs = rowsA l ∧ l.length ≤ maxLen ∧ ∀ x ∈ l, sp ([.sl (frsA x) false] ++ caps) A = some (.bool (yesM sp caps A x), A)
      then some (.int .i64 (idxF (yesM sp caps A) h.2.choose 0), A) else none
  | _, _ => none
theorem spIdxM_eq {g : FuncId} {sp : List AV → AHeap → Option (AV × AHeap)} (f : (List Fr) → Bool) {l : List (List Fr)} {caps : List AV} {A : AHeap} (hl : l.length ≤ maxLen) (h : ∀ x ∈ l, sp ([.sl (frsA x) false] ++ caps) A = some (.bool (f x), A)) :
    spIdxM g sp [.sl (rowsA l) false, .fn g caps] A = some (.int .i64 (idxF f l 0), A) := by
  have hy : ∀ x ∈ l, yesM sp caps A x = f x := by
    intro x hx
    unfold yesM yesOf
    rw [h x hx]
  have hc : g = g ∧ ∃ k : List (List Fr), rowsA l = rowsA k ∧ k.length ≤ maxLen ∧ ∀ x ∈ k, sp ([.sl (frsA x) false] ++ caps) A = some (.bool (yesM sp caps A x), A) := ⟨rfl, l, rfl, hl, fun x hx => by rw [hy x hx]; exact h x hx⟩
  unfold spIdxM
  dsimp only
  rw [dif_pos hc]
  have e : hc.2.choose = l := (rowsA_inj.1 hc.2.choose_spec.1).symm
  rw [e]
  have : ∀ (l : List (List Fr)) (i : Nat), (∀ x ∈ l, yesM sp caps A x = f x) → idxF (yesM sp caps A) l i = idxF f l i := by
    intro l
    induction l with
    | nil => intro _ _; rfl
    | cons x l ih => intro i h; rw [idxF, idxF, h x (List.mem_cons_self ..), ih _ fun y hy => h y (List.mem_cons_of_mem _ hy)]
  rw [this l 0 hy]
open Classical in
noncomputable def spAnyM (g : FuncId) (sp : List AV → AHeap → Option (AV × AHeap)) : List AV → AHeap → Option (AV × AHeap)
  | [.sl xs false, .fn g' caps], A => if h : g' = g ∧ looseL caps = caps ∧ ∃ l : List (List Fr), xs = rowsA l ∧ l.length ≤ maxLen ∧ ∀ x ∈ l, sp ([.sl (frsA x) false] ++ caps) A = some (.bool (yesM sp caps A x), A)
      then some (.bool (h.2.2.choose.any (yesM sp caps A)), A) else none
  | _, _ => none
theorem spAnyM_eq {g : FuncId} {sp : List AV → AHeap → Option (AV × AHeap)} (f : (List Fr) → Bool) {l : List (List Fr)} {caps : List AV} {A : AHeap} (hl : l.length ≤ maxLen) (hcl : looseL caps = caps) (h : ∀ x ∈ l, sp ([.sl (frsA x) false] ++ caps) A = some (.bool (f x), A)) :
    spAnyM g sp [.sl (rowsA l) false, .fn g caps] A = some (.bool (l.any f), A) := by
  have hy : ∀ x ∈ l, yesM sp caps A x = f x := by
    intro x hx
    unfold yesM yesOf
    rw [h x hx]
  have hc : g = g ∧ looseL caps = caps ∧ ∃ k : List (List Fr), rowsA l = rowsA k ∧ k.length ≤ maxLen ∧ ∀ x ∈ k, sp ([.sl (frsA x) false] ++ caps) A = some (.bool (yesM sp caps A x), A) := ⟨rfl, hcl, l, rfl, hl, fun x hx => by rw [hy x hx]; exact h x hx⟩
  unfold spAnyM
  dsimp only
  rw [dif_pos hc]
  have e : hc.2.2.choose = l := (rowsA_inj.1 hc.2.2.choose_spec.1).symm
  rw [e]
  have : l.any (yesM sp caps A) = l.any f := by
    clear e hc h hl
    induction l with
    | nil => rfl
    | cons x l ih => rw [List.any_cons, List.any_cons, hy x (List.mem_cons_self ..), ih fun y hm => hy y (List.mem_cons_of_mem _ hm)]
  rw [this]
/-! ### valid lists -/
theorem any_badF (l : List Fr) : (l.any fun x => !frOk x.p x.q) = !allOk l := by
  unfold allOk
  rw [List.not_all_eq_any_not]
noncomputable def sp_validL : List AV → Option (AV) := pf (ι := (List Fr)) (α := AV) (fun l => l.length ≤ maxLen) (fun l => [.sl (frsA l) false]) (fun l => .bool (decide (l.length ≤ 256) && allOk l))
theorem sp_validL_eq (l : List Fr) (h : l.length ≤ maxLen) : sp_validL [.sl (frsA l) false] = some (.bool (decide (l.length ≤ 256) && allOk l)) := by
  unfold sp_validL
  exact pf_eq (ι := (List Fr)) (α := AV) l h (by rintro l' _ e; simp_all [Int.natCast_inj])
end Go.Proofs.YtgophedkejgedaaDoorAi
end

section
/- Contracts: strings.Join. -/
namespace Go.Proofs.YtgophedkejgedaaDoorAi
open Go Go.RowKit
set_option linter.unusedVariables false
set_option linter.unusedSimpArgs false
set_option maxRecDepth 20000

/-- A library's function of which the result is known, that reads what its arguments reach and leaves memory as it is but for new blocks. -/
theorem T.libS {P : Program} {f : FuncId} {args : List AV} {r : AV} (he : Enters P f) (h : ∀ (σ : Sg) (w : World) (vs : List Value), RepL σ args vs → (∀ b off v, σ.cell b off = some v → w.cell? ⟨b, off, none⟩ = some v) → GoodW P w → Calls P f vs.toArray w fun e w' => ∃ v, e = .returned v ∧ Below w.heap.size w w' ∧ Rep σ r v) (A : AHeap) :
    T P f args A fun r' A' => r' = r ∧ A' = A := by
  refine ⟨he, fun B w0 σ w vs hG hb hs ha => (h σ w vs ha (fun b off v e => hs.cell e) (hG w hb)).mono fun e w' ⟨v, e1, e2, e3⟩ => ?_⟩
  refine ⟨r, A, v, σ, e1, ⟨rfl, rfl⟩, ⟨fun _ _ h => h, fun _ _ h => h, rfl⟩, hs.under e2, e3, hb.trans ⟨e2.os, e2.tape, e2.output, e2.size, fun k hk => e2.block k (hs.base k hk)⟩⟩

theorem rep_sl_inv {σ : Sg} {xs : List AV} {t : Bool} {v : Value} (h : Rep σ (.sl xs t) v) : (xs = [] ∧ ∃ a c, v = .slice a 0 c) ∨ ∃ b off c s, v = .slice (some ⟨b, off, none⟩) xs.length c ∧ xs.length ≤ c ∧
    ∀ (i : Nat) (x : AV), xs[i]? = some x → x.cells.length = s ∧ ∀ (j : Nat) (c : AV), x.cells[j]? = some c → ∃ u, σ.cell b (off + i * s + j) = some u ∧ Rep σ c u := by
  cases h with
  | slnil t a cap => exact .inl ⟨rfl, _, _, rfl⟩
  | sl xs t b off s cap val hlen hcap ht hs hm hr h1 hp =>
    exact .inr ⟨b, off, cap, s, rfl, hlen, fun i x hx => ⟨hs i x hx, fun j c hj => ⟨_, hm i x hx j c hj, hr i x hx j c hj⟩⟩⟩
@[simp] def strA (s : ByteArray) : AV := .str s
theorem strA_inj0 : ∀ x y, strA x = strA y → x = y := by
  intro x y h
  simp only [strA] at h
  injection h
abbrev strsA (l : List ByteArray) : List AV := mapA strA l
@[simp] theorem strsA_inj {l k : List ByteArray} : mapA strA l = mapA strA k ↔ l = k := ⟨mapA_inj strA_inj0, fun h => by rw [h]⟩
instance : Plain strA 1 := ⟨fun _ => rfl, by omega, fun _ => rfl, fun _ => rfl, fun _ => rfl, fun _ _ => rfl⟩
def joinT (l : List ByteArray) (sep : ByteArray) : ByteArray := ⟨(Go.Lib.join (l.map (·.data.toList)) sep.data.toList).toArray⟩
noncomputable def sp_joinS : List AV → Option (AV) := pf (ι := (List ByteArray) × (ByteArray)) (α := AV) (fun ⟨l, sep⟩ => l.length ≤ 1048576 ∧ (joinT l sep).size ≤ 140737488355328) (fun ⟨l, sep⟩ => [.sl (strsA l) false, .str sep]) (fun ⟨l, sep⟩ => .str (joinT l sep))
theorem sp_joinS_eq (l : List ByteArray) (sep : ByteArray) (h : l.length ≤ 1048576 ∧ (joinT l sep).size ≤ 140737488355328) : sp_joinS [.sl (strsA l) false, .str sep] = some (.str (joinT l sep)) := by
  unfold sp_joinS
  exact pf_eq (ι := (List ByteArray) × (ByteArray)) (α := AV) (l, sep) h (by rintro ⟨l', sep'⟩ _ e; simp_all [Int.natCast_inj])
end Go.Proofs.YtgophedkejgedaaDoorAi
end

section
/- Contracts: texts of lists of fractions and of matrices. -/
namespace Go.Proofs.YtgophedkejgedaaDoorAi
open Go Go.RowKit
set_option linter.unusedVariables false
set_option linter.unusedSimpArgs false
set_option maxRecDepth 20000

theorem ljoin_cons2 (x y : List UInt8) (r : List (List UInt8)) (sep : List UInt8) : Go.Lib.join (x :: y :: r) sep = x ++ (sep ++ Go.Lib.join (y :: r) sep) := by
  simp [Go.Lib.join, List.intercalate, List.intersperse]
theorem ljoin_snoc (sep x : List UInt8) : ∀ (l : List (List UInt8)), l ≠ [] → Go.Lib.join (l ++ [x]) sep = Go.Lib.join l sep ++ (sep ++ x)
  | [], h => absurd rfl h
  | [y], _ => by
    show Go.Lib.join [y, x] sep = _
    rw [ljoin_cons2, Go.Lib.join_one, Go.Lib.join_one]
  | y :: z :: r, _ => by
    show Go.Lib.join (y :: z :: (r ++ [x])) sep = _
    have ih := ljoin_snoc sep x (z :: r) (by simp)
    rw [ljoin_cons2, ljoin_cons2]
    rw [List.cons_append] at ih
    rw [ih]
    simp only [List.append_assoc]
theorem joinT_nil (sep : ByteArray) : joinT [] sep = ⟨#[]⟩ := rfl
theorem joinT_one (x sep : ByteArray) : joinT [x] sep = x := by
  unfold joinT; rw [List.map_cons, List.map_nil, Go.Lib.join_one]
theorem joinT_snoc (sep x : ByteArray) (l : List ByteArray) (h : l ≠ []) : joinT (l ++ [x]) sep = joinT l sep ++ (sep ++ x) := by
  unfold joinT
  rw [List.map_append, List.map_cons, List.map_nil, ljoin_snoc _ _ _ (by simpa using h)]
  apply ByteArray.ext
  simp
theorem joinT_size (sep : ByteArray) (m : Nat) : ∀ (l : List ByteArray), (∀ x ∈ l, x.size ≤ m) → (joinT l sep).size ≤ l.length * (m + sep.size)
  | [], _ => by simp [joinT_nil]
  | [y], h => by
    have := h y (List.mem_cons_self ..)
    rw [joinT_one, List.length_singleton]; omega
  | y :: z :: r, h => by
    have h1 := joinT_size sep m (z :: r) fun x hx => h x (List.mem_cons_of_mem _ hx)
    have h2 := h y (List.mem_cons_self ..)
    have e : (joinT (y :: z :: r) sep).size = y.size + (sep.size + (joinT (z :: r) sep).size) := by
      unfold joinT
      rw [List.map_cons, List.map_cons, ljoin_cons2]
      simp only [ba_size, List.size_toArray, List.length_append, Array.length_toList]
      rfl
    rw [e, List.length_cons, Nat.add_mul]
    rw [List.length_cons] at h1 ⊢
    omega
def oneB : ByteArray := ⟨#[32]⟩
def frS (x : Fr) : ByteArray := frT x.p x.q
def fracsT (l : List Fr) : ByteArray := joinT (l.map frS) oneB
theorem frS_size {x : Fr} (h : frOk x.p x.q = true) : (frS x).size ≤ 43 := by
  have hb := frOk_bd h
  have s1 := decB_size x.p (by omega) (by omega)
  have s2 := decB_size x.q (by omega) (by omega)
  unfold frS frT
  split
  · omega
  · have : slashB.size = 1 := rfl
    simp only [ByteArray.size_append]; omega
theorem allOk_get {l : List Fr} (h : allOk l = true) : ∀ x ∈ l, frOk x.p x.q = true := by
  unfold allOk at h
  exact fun x hx => List.all_eq_true.1 h x hx
theorem fracsT_size {l : List Fr} (h : allOk l = true) : (fracsT l).size ≤ l.length * 44 := by
  have := joinT_size oneB 43 (l.map frS) (by
    intro x hx
    obtain ⟨y, hy, rfl⟩ := List.mem_map.1 hx
    exact frS_size (allOk_get h y hy))
  have e : oneB.size = 1 := rfl
  rw [e, List.length_map] at this
  exact this
def lvS (N : Nat) (L : List ByteArray) : AV := if L = [] then .sl [] true else .ref N 1 0 L.length .full
def obS (L : List ByteArray) : List (Option (List AV)) := if L = [] then [] else [some (flatA (strsA L))]
theorem lvS_nil (N : Nat) : lvS N [] = .sl [] true := rfl
theorem obS_nil : obS [] = [] := rfl
theorem lvS_cons {N : Nat} {L : List ByteArray} (h : L ≠ []) : lvS N L = .ref N 1 0 L.length .full := if_neg h
theorem obS_cons {L : List ByteArray} (h : L ≠ []) : obS L = [some (flatA (strsA L))] := if_neg h
theorem lvS_lt (L : List ByteArray) : AV.lt (obS L).length (lvS 0 L) = true := by
  by_cases hL : L = []
  · rw [hL, lvS_nil]; rfl
  · rw [obS_cons hL, lvS_cons hL]; simp
theorem strS_snoc (L : List ByteArray) (s : ByteArray) : flatA (strsA L) ++ [.str s] = flatA (strsA (L ++ [s])) := by
  rw [flatA_append]; rfl
@[simp] theorem gath_str (l : List ByteArray) (n : Nat) (h : n = l.length) : gath 1 n (flatA (mapA strA l)) = mapA strA l := flatA_gath l n h
def ftSt (l : List Fr) (i : Nat) : St := ⟨tl [(3, lvS 0 ((l.map frS).take i)), (7, .sl (frsA l) false), (8, .int .i64 l.length), (9, .int .i64 i)], ⟨obS ((l.map frS).take i)⟩⟩
noncomputable def sp_fracsText : List AV → Option (AV) := pf (ι := (List Fr)) (α := AV) (fun l => allOk l = true ∧ l.length ≤ 256) (fun l => [.sl (frsA l) false]) (fun l => .str (fracsT l))
theorem sp_fracsText_eq (l : List Fr) (h : allOk l = true ∧ l.length ≤ 256) : sp_fracsText [.sl (frsA l) false] = some (.str (fracsT l)) := by
  unfold sp_fracsText
  exact pf_eq (ι := (List Fr)) (α := AV) l h (by rintro l' _ e; simp_all [Int.natCast_inj])
end Go.Proofs.YtgophedkejgedaaDoorAi
end

section
/- Contracts: whole numbers and pieces of texts of the reference. -/
namespace Go.Proofs.YtgophedkejgedaaDoorAi
open Go Go.RowKit
set_option linter.unusedVariables false
set_option linter.unusedSimpArgs false
set_option maxRecDepth 20000

def billB : ByteArray := ⟨#[49, 48, 48, 48, 48, 48, 48, 48, 48, 48]⟩
def whB (s : ByteArray) : Bool := (s == billB) || l01B s
def whV (s : ByteArray) : Int := if (s == billB) = true then 1000000000 else l01V s
noncomputable def sp_whole2 : List AV → Option (AV) := pf (ι := (ByteArray)) (α := AV) (fun s => s.size ≤ 1048576) (fun s => [.str s]) (fun s => .tup [.int .i64 (whV s), .bool (whB s)])
theorem sp_whole2_eq (s : ByteArray) (h : s.size ≤ 1048576) : sp_whole2 [.str s] = some (.tup [.int .i64 (whV s), .bool (whB s)]) := by
  unfold sp_whole2
  exact pf_eq (ι := (ByteArray)) (α := AV) s h (by rintro s' _ e; simp_all [Int.natCast_inj])
def splF (s : ByteArray) (c : Int) : Nat → Nat → Nat → List ByteArray → List ByteArray
  | 0, _, f, out => out ++ [s.extract f s.size]
  | k + 1, i, f, out => if bAt s i = c then splF s c k (i + 1) (i + 1) (out ++ [s.extract f i]) else splF s c k (i + 1) f out
def splitL (s : ByteArray) (c : Int) : List ByteArray := splF s c s.size 0 0 []
theorem splF_len (s : ByteArray) (c : Int) : ∀ k i f out, (splF s c k i f out).length ≤ out.length + k + 1 ∧ splF s c k i f out ≠ []
  | 0, i, f, out => by simp [splF]
  | k + 1, i, f, out => by
    rw [splF]
    split
    · have := splF_len s c k (i + 1) (i + 1) (out ++ [s.extract f i])
      refine ⟨?_, this.2⟩
      have h1 := this.1
      simp at h1
      omega
    · have := splF_len s c k (i + 1) f out
      exact ⟨by omega, this.2⟩
def spSt (s : ByteArray) (c : Int) (q : Nat × Nat × List ByteArray) : St := ⟨tl [(0, .str s), (1, .int .u8 c), (5, lvS 0 q.2.2), (6, .int .i64 q.2.1), (7, .int .i64 q.1)], ⟨[some (flatA (strsA q.2.2))]⟩⟩
theorem lvS_lt1 (L : List ByteArray) : AV.lt 1 (lvS 0 L) = true := by
  by_cases hL : L = []
  · rw [hL, lvS_nil]; rfl
  · rw [lvS_cons hL]; simp
noncomputable def sp_split : List AV → Option (AV × List (Option (List AV))) := pf (ι := (ByteArray) × (Int)) (α := AV × List (Option (List AV))) (fun ⟨s, c⟩ => s.size ≤ 1048576 ∧ 0 ≤ c ∧ c ≤ 255) (fun ⟨s, c⟩ => [.str s, .int .u8 c]) (fun ⟨s, c⟩ => (.ref 0 1 0 (splitL s c).length .full, [some (flatA (strsA (splitL s c)))]))
theorem sp_split_eq (s : ByteArray) (c : Int) (h : s.size ≤ 1048576 ∧ 0 ≤ c ∧ c ≤ 255) : sp_split [.str s, .int .u8 c] = some ((.ref 0 1 0 (splitL s c).length .full, [some (flatA (strsA (splitL s c)))])) := by
  unfold sp_split
  exact pf_eq (ι := (ByteArray) × (Int)) (α := AV × List (Option (List AV))) (s, c) h (by rintro ⟨s', c'⟩ _ e; simp_all [Int.natCast_inj])
theorem n_spec_l01Split : QN PP 48 sp_split := by
  refine QN_pf (fun i h => ?_) fun i h => ?_
  · obtain ⟨s, c⟩ := i; first | rfl | simp
  obtain ⟨s, c⟩ := i
  replace h : s.size ≤ 1048576 ∧ 0 ≤ c ∧ c ≤ 255 := h
  show T PP 48 [.str s, .int .u8 c] .nil fun r' A' => r' = (((.ref 0 1 0 (splitL s c).length .full, [some (flatA (strsA (splitL s c)))]) : AV × List (Option (List AV)))).1 ∧ A' = ⟨(((.ref 0 1 0 (splitL s c).length .full, [some (flatA (strsA (splitL s c)))]) : AV × List (Option (List AV)))).2⟩
  obtain ⟨hl, hc0, hc1⟩ := h
  refine H_code Quiet.nil hmix k_spec_l01Split rfl (fun _ => 2) (by simp [AHeap.n, AHeap.nil]) (by intro b hb; simp [AHeap.n, AHeap.nil] at hb <;> subst hb <;> rfl) (by rfl) (by first | rfl | simp) ?_
  simp -dsimp -implicitDefEqProofs [c_spec_l01Split, r_spec_l01Split]
  refine wpLoop_st (spSt s c) (fun q => q.1 ≤ s.size ∧ q.2.1 ≤ q.1 ∧ q.2.2.length ≤ q.1 ∧ splF s c (s.size - q.1) q.1 q.2.1 q.2.2 = splitL s c) (fun q => s.size - q.1) (0, 0, []) ⟨by simp, by simp, by simp, rfl⟩ (Sub.keep (by simp [spSt]) (by simp [hsub, spSt]) (by simp [spSt, lvS_nil])) ?_
  rintro ⟨i, f, out⟩ ⟨hi, hf, ho, hs⟩
  simp only at hi hf ho hs
  simp -dsimp -implicitDefEqProofs [spSt]
  refine brW_of (fun h => ?_) (fun h => ?_) <;> simp only [decide_eq_true_eq, decide_eq_false_iff_not] at h
  · have hx : i < s.size := by omega
    have hw := wrapNat (i := i) (by omega)
    have hg := idx_at s i hx
    have hk : s.size - i = (s.size - (i + 1)) + 1 := by omega
    rw [hk, splF] at hs
    by_cases hb : bAt s i = c
    · rw [if_pos hb] at hs
      have hb' : (bAt s i == c) = true := by simpa using hb
      have c1 : f ≤ i ∧ i ≤ s.size := ⟨by omega, by omega⟩
      have c3 : i ≤ s.size := by omega
      have e2 := strS_snoc out (s.extract f i)
      by_cases hL : out = []
      · subst hL
        have l1 : 1 * 17 ≤ mostBytes := by decide
        simp -dsimp -implicitDefEqProofs [hx, hw, hg, hb, hb', lvS_nil, l1, hf, c3]
        refine .mk (i + 1, i + 1, [s.extract f i]) ⟨by simp only; omega, by simp only; omega, by simp, hs⟩ (by simp only; omega) (Sub.mk' (fun b => if b = 0 then 2 else b) (by simp [spSt]) (by intro b hb; simp [spSt] at hb <;> omega) (by rfl) (by simp [hsub, spSt, flatA_cons]) (by simp [spSt, lvS, hw]))
      · have l1 : (out.length + 1) * 17 ≤ mostBytes := by simp only [mostBytes]; omega
        have l2 : ¬ (out.length + 1 ≤ out.length) := by omega
        have l3 : (flatA (strsA out)).take out.length = flatA (strsA out) := List.take_of_length_le (by simp)
        have e5 : out ++ [s.extract f i] ≠ [] := by simp
        simp -dsimp -implicitDefEqProofs [hx, hw, hg, hb, hb', lvS_cons hL, l1, l2, l3, e2, hf, c3]
        refine .mk (i + 1, i + 1, out ++ [s.extract f i]) ⟨by simp only; omega, by simp only; omega, by simp; omega, hs⟩ (by simp only; omega) (Sub.mk' (fun b => if b = 0 then 2 else b) (by simp [spSt]) (by intro b hb; simp [spSt] at hb <;> omega) (by rfl) (by simp [hsub, spSt]) (by simp [spSt, lvS_cons e5, hw]))
    · rw [if_neg hb] at hs
      have hb' : (bAt s i == c) = false := by simpa using hb
      simp -dsimp -implicitDefEqProofs [hx, hw, hg, hb, hb']
      refine .mk (i + 1, f, out) ⟨by simp only; omega, by simp only; omega, by simp only; omega, hs⟩ (by simp only; omega) (Sub.keep (by simp [spSt]) (by simp [hsub, spSt]) (by simp [spSt, hw, lvS_lt1]))
  · have hi' : i = s.size := by omega
    subst hi'
    rw [Nat.sub_self, splF] at hs
    have e2 := strS_snoc out (s.extract f s.size)
    by_cases hL : out = []
    · subst hL
      have l1 : 1 * 17 ≤ mostBytes := by decide
      simp -dsimp -implicitDefEqProofs [lvS_nil, l1, hf, hsub, ← hs, flatA_cons]
    · have l1 : (out.length + 1) * 17 ≤ mostBytes := by simp only [mostBytes]; omega
      have l2 : ¬ (out.length + 1 ≤ out.length) := by omega
      have l3 : (flatA (strsA out)).take out.length = flatA (strsA out) := List.take_of_length_le (by simp)
      simp -dsimp -implicitDefEqProofs [lvS_cons hL, l1, l2, l3, e2, hf, hsub, ← hs]
end Go.Proofs.YtgophedkejgedaaDoorAi
end

section
/- Contracts: ReadFraction of the reference. -/
namespace Go.Proofs.YtgophedkejgedaaDoorAi
open Go Go.RowKit
set_option linter.unusedVariables false
set_option linter.unusedSimpArgs false
set_option maxRecDepth 20000

theorem flat_strs : ∀ (L : List ByteArray), flatA (strsA L) = strsA L
  | [] => rfl
  | x :: L => by
    rw [flatA_cons, flat_strs L]; rfl
theorem splF_size (s : ByteArray) (c : Int) : ∀ k i f out, (∀ x ∈ out, x.size ≤ s.size) → ∀ x ∈ splF s c k i f out, x.size ≤ s.size
  | 0, i, f, out, h => by
    intro x hx
    rw [splF] at hx
    rcases List.mem_append.1 hx with hx | hx
    · exact h x hx
    · obtain rfl := List.mem_singleton.1 hx
      rw [ByteArray.size_extract]; omega
  | k + 1, i, f, out, h => by
    intro x hx
    rw [splF] at hx
    split at hx
    · refine splF_size s c k _ _ _ (fun y hy => ?_) x hx
      rcases List.mem_append.1 hy with hy | hy
      · exact h y hy
      · obtain rfl := List.mem_singleton.1 hy
        rw [ByteArray.size_extract]; omega
    · exact splF_size s c k _ _ _ h x hx
theorem splitL_size (s : ByteArray) (c : Int) : ∀ x ∈ splitL s c, x.size ≤ s.size := splF_size s c _ _ _ _ (fun x hx => by cases hx)
theorem l01V_in (s : ByteArray) : 0 ≤ l01V s ∧ l01V s ≤ 1000000000 := by
  unfold l01V
  split
  · rename_i h
    unfold l01B at h
    simp only [Bool.and_eq_true, Bool.not_eq_true', Bool.or_eq_false_iff, decide_eq_false_iff_not] at h
    have hn := nV_in s s.size h.2
    have : (10 : Int) ^ s.size ≤ 10 ^ 9 := by
      have : s.size ≤ 9 := by omega
      exact_mod_cast Nat.pow_le_pow_right (by decide) this
    omega
  · omega
theorem whV_in (s : ByteArray) : 0 ≤ whV s ∧ whV s ≤ 1000000000 := by
  unfold whV
  split
  · omega
  · exact l01V_in s
def w0S (s : ByteArray) : ByteArray := (splitL s 47)[0]?.getD noB
def w1S (s : ByteArray) : ByteArray := (splitL s 47)[1]?.getD noB
def negS (s : ByteArray) : Bool := decide (0 < (w0S s).size) && (bAt (w0S s) 0 == 45)
def tpS (s : ByteArray) : ByteArray := if negS s = true then (w0S s).extract 1 (w0S s).size else w0S s
def rdP (s : ByteArray) : Int := if negS s = true then -whV (tpS s) else whV (tpS s)
def rdQ (s : ByteArray) : Int := if (splitL s 47).length = 2 then whV (w1S s) else 1
def rd2 (s : ByteArray) : Bool := if (splitL s 47).length = 2 then whB (w1S s) else decide ((splitL s 47).length = 1)
def rdOk (s : ByteArray) : Bool := (whB (tpS s) && rd2 s) && frOk (rdP s) (rdQ s) && (fracT (rdP s) (rdQ s) == s)
noncomputable def sp_l02Read : List AV → Option (AV) := pf (ι := (ByteArray)) (α := AV) (fun s => s.size ≤ 1048576) (fun s => [.str s]) (fun s => .tup [.agg [.int .i64 (rdP s), .int .i64 (rdQ s)], .bool (rdOk s)])
theorem sp_l02Read_eq (s : ByteArray) (h : s.size ≤ 1048576) : sp_l02Read [.str s] = some (.tup [.agg [.int .i64 (rdP s), .int .i64 (rdQ s)], .bool (rdOk s)]) := by
  unfold sp_l02Read
  exact pf_eq (ι := (ByteArray)) (α := AV) s h (by rintro s' _ e; simp_all [Int.natCast_inj])
end Go.Proofs.YtgophedkejgedaaDoorAi
end

section
/- Plain law: both readings of fractions agree. -/
namespace Go.Proofs.YtgophedkejgedaaDoorAi
open Go Go.RowKit
set_option linter.unusedVariables false
set_option linter.unusedSimpArgs false
set_option maxRecDepth 20000

/-! ### bytes of joined texts -/
theorem bAt_left (a b : ByteArray) (i : Nat) (h : i < a.size) : bAt (a ++ b) i = bAt a i := by
  have h' : i < a.data.toList.length := by rw [Array.length_toList]; exact h
  unfold bAt
  rw [ByteArray.data_append, Array.toList_append, List.getElem?_append_left h']
theorem bAt_right (a b : ByteArray) (i : Nat) : bAt (a ++ b) (a.size + i) = bAt b i := by
  have h' : a.data.toList.length = a.size := by rw [Array.length_toList]; rfl
  unfold bAt
  rw [ByteArray.data_append, Array.toList_append, List.getElem?_append_right (by omega), h', Nat.add_sub_cancel_left]
theorem nV_left (a b : ByteArray) : ∀ i, i ≤ a.size → nV (a ++ b) i = nV a i
  | 0, _ => rfl
  | i + 1, h => by rw [nV, nV, nV_left a b i (by omega), bAt_left a b i (by omega)]
theorem nOk_left (a b : ByteArray) : ∀ i, i ≤ a.size → nOk (a ++ b) i = nOk a i
  | 0, _ => rfl
  | i + 1, h => by rw [nOk, nOk, nOk_left a b i (by omega), bAt_left a b i (by omega)]
theorem ext_left (a b : ByteArray) : (a ++ b).extract 0 a.size = a := by
  apply ByteArray.ext
  apply Array.ext'
  have h' : a.data.toList.length = a.size := by rw [Array.length_toList]; rfl
  rw [ByteArray.data_extract, Array.toList_extract, ByteArray.data_append, Array.toList_append, ← h']
  simp [List.extract]
theorem ext_right (a b : ByteArray) : (a ++ b).extract a.size (a ++ b).size = b := by
  apply ByteArray.ext
  apply Array.ext'
  have h' : a.data.toList.length = a.size := by rw [Array.length_toList]; rfl
  have h2 : b.data.toList.length = b.size := by rw [Array.length_toList]; rfl
  rw [ByteArray.data_extract, Array.toList_extract, ByteArray.data_append, Array.toList_append, ByteArray.size_append, ← h', ← h2]
  simp [List.extract]
  exact List.take_of_length_le (by omega)
theorem ext_all (a : ByteArray) : a.extract 0 a.size = a := by
  have := ext_left a noB
  have e : a ++ noB = a := by apply ByteArray.ext; simp [noB]
  rw [e] at this
  exact this
/-! ### bytes of numerals -/
theorem bAt_one (d : Nat) (h : d < 10) : bAt ⟨[UInt8.ofNat (48 + d)].toArray⟩ 0 = 48 + d := by
  unfold bAt
  show ((UInt8.ofNat (48 + d)).toNat : Int) = _
  rw [dig_toNat h]; omega
theorem decB_facts (u : Nat) (hu : u < 4611686018427387904) : nV (decB u) (decB u).size = u ∧ nOk (decB u) (decB u).size = true ∧ 0 < (decB u).size ∧ (1 ≤ u → bAt (decB u) 0 ≠ 48) ∧ (10 ≤ u → 1 < (decB u).size) := by
  induction u using Nat.strongRecOn with
  | ind u ih =>
    by_cases h : u < 10
    · rw [decB_small (by omega) (by omega)]
      have hb := bAt_one u h
      have e : ((u : Int)).toNat = u := by omega
      rw [e]
      refine ⟨?_, ?_, ?_, ?_, by omega⟩
      · show 0 * 10 + (bAt _ 0 - 48) = _
        rw [hb]; omega
      · show (true && isDig (bAt _ 0)) = true
        rw [hb]; unfold isDig; simp; omega
      · show 0 < 1; omega
      · intro h1; rw [hb]; omega
    · obtain ⟨i1, i2, i3, i4, i5⟩ := ih (u / 10) (by omega) (by omega)
      have e1 : (u : Int).tdiv 10 = ((u / 10 : Nat) : Int) := by rw [Int.tdiv_eq_ediv_of_nonneg (by omega)]; omega
      have e2 : ((u : Int).tmod 10).toNat = u % 10 := by rw [Int.tmod_eq_emod_of_nonneg (by omega)]; omega
      rw [decB_step (by omega), e1, e2]
      generalize decB ((u / 10 : Nat) : Int) = A at *
      have hb := bAt_one (u % 10) (by omega)
      generalize hD : (⟨[UInt8.ofNat (48 + u % 10)].toArray⟩ : ByteArray) = D at *
      have hs : D.size = 1 := by rw [← hD]; rfl
      have hr := bAt_right A D 0
      rw [Nat.add_zero] at hr
      rw [ByteArray.size_append, hs]
      refine ⟨?_, ?_, by omega, ?_, by omega⟩
      · rw [nV, nV_left A D _ (Nat.le_refl _), i1, hr, hb]; omega
      · rw [nOk, nOk_left A D _ (Nat.le_refl _), i2, hr, hb]; unfold isDig; simp; omega
      · intro _
        rw [bAt_left A D 0 i3]
        exact i4 (by omega)
theorem decB_bill : decB 1000000000 = billB := by
  unfold decB Go.Lib.itoa billB
  simp [Go.Lib.decDigits]
theorem wh_dec (n : Int) (h0 : 0 ≤ n) (h1 : n ≤ 1000000000) : whV (decB n) = n ∧ whB (decB n) = true := by
  unfold whV whB
  by_cases hb : n = 1000000000
  · subst hb
    rw [decB_bill, beq_ba]; exact ⟨rfl, rfl⟩
  · have hf : (decB n == billB) = false := by
      rw [ba_eq]
      refine decide_eq_false fun e => hb ?_
      have h2 := (num_dec n (by omega) (by omega)).1
      have h3 := (num_dec 1000000000 (by omega) (by omega)).1
      rw [decB_bill] at h3
      rw [e, h3] at h2
      exact h2.symm
    rw [hf]
    obtain ⟨u, rfl⟩ := Int.eq_ofNat_of_zero_le h0
    obtain ⟨f1, f2, f3, f4, f5⟩ := decB_facts u (by omega)
    have hsz : (decB u).size ≤ 9 := by
      have h2 := nDig_le 8 u (by omega)
      have : (decB (u : Int)).size = Go.Lib.nDigits u := by
        unfold decB Go.Lib.itoa
        rw [if_neg (by omega), ba_size, List.size_toArray, Go.Lib.decDigits_length, Int.toNat_natCast]
      omega
    have hB : l01B (decB u) = true := by
      have a1 : decide ((decB (u : Int)).size < 1) = false := decide_eq_false (by omega)
      have a2 : decide (9 < (decB (u : Int)).size) = false := decide_eq_false (by omega)
      unfold l01B
      rw [f2, a1, a2]
      by_cases hu : 1 ≤ u
      · have := f4 hu
        have e : (bAt (decB u) 0 == 48) = false := by simpa using this
        rw [e]; rfl
      · have : u = 0 := by omega
        subst this
        have : (decB ((0 : Nat) : Int)).size = 1 := by rw [decB_small (by omega) (by omega)]; rfl
        rw [this]; simp
    refine ⟨?_, by rw [hB]; rfl⟩
    simp only [Bool.false_eq_true, if_false]
    unfold l01V
    rw [if_pos hB, f1]
theorem itoa_ne (n : Int) : ∀ c ∈ Go.Lib.itoa n, c ≠ 47 := by
  intro c hc e
  subst e
  unfold Go.Lib.itoa at hc
  split at hc
  · rcases List.mem_cons.1 hc with hc | hc
    · exact absurd hc (by decide)
    · have := (decD_dig _ _ hc).1
      exact absurd this (by decide)
  · have := (decD_dig _ _ hc).1
    exact absurd this (by decide)
theorem bAt_dec (n : Int) (i : Nat) (h : i < (decB n).size) : bAt (decB n) i ≠ 47 := by
  have h' : i < (Go.Lib.itoa n).length := by
    have : (decB n).size = (Go.Lib.itoa n).length := by unfold decB; rw [ba_size, List.size_toArray]
    omega
  unfold bAt decB
  simp only [List.getElem?_eq_getElem h', Option.getD_some]
  have hm := itoa_ne n _ (List.getElem_mem h')
  intro e
  apply hm
  apply UInt8.toNat_inj.1
  have : (Go.Lib.itoa n)[i].toNat = 47 := by omega
  rw [this]; rfl
end Go.Proofs.YtgophedkejgedaaDoorAi
end

section
/- Plain law and law: ReadFraction. -/
namespace Go.Proofs.YtgophedkejgedaaDoorAi
open Go Go.RowKit
set_option linter.unusedVariables false
set_option linter.unusedSimpArgs false
set_option maxRecDepth 20000

/-! ### the program's reading of a fraction's text -/
theorem index_none' : ∀ (a : List UInt8), (∀ c ∈ a, c ≠ 47) → Go.Lib.index a [47] = -1
  | [], _ => rfl
  | c :: a, h => by
    rw [Go.Lib.index, index_none' a fun d hd => h d (List.mem_cons_of_mem _ hd)]
    have hc := h c (List.mem_cons_self ..)
    have : List.isPrefixOf [47] (c :: a) = false := by
      simp [List.isPrefixOf]; exact fun e => hc e.symm
    rw [this]; rfl
theorem index_at' (b : List UInt8) : ∀ (a : List UInt8), (∀ c ∈ a, c ≠ 47) → Go.Lib.index (a ++ 47 :: b) [47] = a.length
  | [], _ => by
    rw [List.nil_append, Go.Lib.index]
    have : List.isPrefixOf [47] ((47 : UInt8) :: b) = true := by simp [List.isPrefixOf]
    rw [if_pos this]; rfl
  | c :: a, h => by
    rw [List.cons_append, Go.Lib.index, index_at' b a fun d hd => h d (List.mem_cons_of_mem _ hd)]
    have hc := h c (List.mem_cons_self ..)
    have : List.isPrefixOf [47] (c :: (a ++ 47 :: b)) = false := by
      simp [List.isPrefixOf]; exact fun e => hc e.symm
    rw [this]
    have h2 : ((a.length : Int) == -1) = false := by rw [beq_eq_false_iff_ne]; omega
    rw [h2]; simp
theorem ba_back (a : ByteArray) : (⟨a.data.toList.toArray⟩ : ByteArray) = a := by apply ByteArray.ext; simp
theorem ones_dec : decB 1 = onesB := by rw [decB_small (by omega) (by omega)]; rfl
theorem impl_reads {p q : Int} (h : frOk p q = true) : numV (topS (frT p q)) = p ∧ numV (botS (frT p q)) = q ∧ numB (topS (frT p q)) = true ∧ numB (botS (frT p q)) = true := by
  have hb := frOk_bd h
  have hp := num_dec p (by omega) (by omega)
  have hq := num_dec q (by omega) (by omega)
  have hl : ∀ n, (decB n).data.toList = Go.Lib.itoa n := fun n => by simp [decB]
  by_cases h1 : q = 1
  · subst h1
    have e : frT p 1 = decB p := by unfold frT; rw [if_pos rfl]
    have hc : Go.Lib.cut (decB p).data.toList slashB.data.toList = ((decB p).data.toList, [], false) := by
      unfold Go.Lib.cut
      rw [if_neg]
      rw [hl]
      show ¬ 0 ≤ Go.Lib.index (Go.Lib.itoa p) [47]
      rw [index_none' _ (itoa_ne p)]; omega
    have eA : topS (frT p 1) = decB p := by unfold topS cutA; rw [e, hc]
    have eI : cutI (frT p 1) slashB = false := by unfold cutI; rw [e, hc]
    have eB : botS (frT p 1) = decB 1 := by unfold botS; rw [eI, ones_dec]; rfl
    rw [eA, eB]
    exact ⟨hp.1, hq.1, hp.2, hq.2⟩
  · have e : frT p q = decB p ++ slashB ++ decB q := by unfold frT; rw [if_neg h1]
    have el : (frT p q).data.toList = Go.Lib.itoa p ++ 47 :: Go.Lib.itoa q := by
      rw [e, ByteArray.data_append, ByteArray.data_append, Array.toList_append, Array.toList_append, hl, hl]
      simp [slashB]
    have hc : Go.Lib.cut (frT p q).data.toList slashB.data.toList = (Go.Lib.itoa p, Go.Lib.itoa q, true) := by
      unfold Go.Lib.cut
      have hi : Go.Lib.index (frT p q).data.toList slashB.data.toList = (Go.Lib.itoa p).length := by
        rw [el]; exact index_at' _ _ (itoa_ne p)
      rw [hi, if_pos (by omega), el]
      have hs : slashB.data.toList.length = 1 := rfl
      rw [hs, Int.toNat_natCast]
      simp
    have eA : topS (frT p q) = decB p := by unfold topS cutA; rw [hc]; rfl
    have eI : cutI (frT p q) slashB = true := by unfold cutI; rw [hc]
    have eB : botS (frT p q) = decB q := by unfold botS; rw [if_pos eI]; unfold cutB; rw [hc]; rfl
    rw [eA, eB]
    exact ⟨hp.1, hq.1, hp.2, hq.2⟩

/-! ### the reference's reading -/
theorem splF_skip (s : ByteArray) (c : Int) (k f : Nat) (out : List ByteArray) : ∀ (m i : Nat), (∀ j, i ≤ j → j < i + m → bAt s j ≠ c) → splF s c (m + k) i f out = splF s c k (i + m) f out
  | 0, i, _ => by rw [Nat.zero_add, Nat.add_zero]
  | m + 1, i, h => by
    rw [show m + 1 + k = (m + k) + 1 by omega, splF, if_neg (h i (by omega) (by omega)), splF_skip s c k f out m (i + 1) (fun j h1 h2 => h j (by omega) (by omega)), show i + 1 + m = i + (m + 1) by omega]
theorem split_one (n : Int) : splitL (decB n) 47 = [decB n] := by
  unfold splitL
  have := splF_skip (decB n) 47 0 0 [] (decB n).size 0 (fun j _ h => bAt_dec n j (by omega))
  rw [Nat.add_zero, Nat.zero_add] at this
  rw [this, splF, ext_all]; rfl
theorem split_two (p q : Int) : splitL (decB p ++ slashB ++ decB q) 47 = [decB p, decB q] := by
  unfold splitL
  have hs : slashB.size = 1 := rfl
  have e1 : decB p ++ slashB ++ decB q = decB p ++ (slashB ++ decB q) := ByteArray.append_assoc ..
  have hsz : (decB p ++ slashB ++ decB q).size = (decB p).size + (1 + (decB q).size) := by rw [e1, ByteArray.size_append, ByteArray.size_append, hs]
  have hA : ∀ j, j < (decB p).size → bAt (decB p ++ slashB ++ decB q) j = bAt (decB p) j := fun j hj => by rw [e1, bAt_left _ _ _ hj]
  have hM : bAt (decB p ++ slashB ++ decB q) (decB p).size = 47 := by
    have := bAt_right (decB p) (slashB ++ decB q) 0
    rw [Nat.add_zero] at this
    rw [e1, this, bAt_left slashB (decB q) 0 (by rw [hs]; omega)]; rfl
  have hB : ∀ j, bAt (decB p ++ slashB ++ decB q) ((decB p).size + 1 + j) = bAt (decB q) j := fun j => by
    have := bAt_right (decB p ++ slashB) (decB q) j
    rw [ByteArray.size_append, hs] at this
    exact this
  have eL : (decB p ++ slashB ++ decB q).extract 0 (decB p).size = decB p := by rw [e1]; exact ext_left _ _
  have eR : (decB p ++ slashB ++ decB q).extract ((decB p).size + 1) (decB p ++ slashB ++ decB q).size = decB q := by
    have := ext_right (decB p ++ slashB) (decB q)
    rw [ByteArray.size_append (a := decB p), hs] at this
    exact this
  generalize decB p ++ slashB ++ decB q = s at *
  have s1 := splF_skip s 47 (1 + (decB q).size) 0 [] (decB p).size 0 (fun j _ h => by rw [hA j (by omega)]; exact bAt_dec p j (by omega))
  rw [Nat.zero_add] at s1
  rw [hsz, s1, show 1 + (decB q).size = (decB q).size + 1 by omega, splF, if_pos hM, eL]
  have s2 := splF_skip s 47 0 ((decB p).size + 1) ([] ++ [decB p]) (decB q).size ((decB p).size + 1) (fun j h1 h2 => by
    have := hB (j - ((decB p).size + 1))
    rw [show (decB p).size + 1 + (j - ((decB p).size + 1)) = j by omega] at this
    rw [this]; exact bAt_dec q _ (by omega))
  rw [Nat.add_zero] at s2
  rw [s2, splF, eR]; rfl
theorem neg_dec (n : Int) (hn : -1000000000 ≤ n ∧ n ≤ 1000000000) : (decide (0 < (decB n).size) && (bAt (decB n) 0 == 45)) = decide (n < 0) := by
  by_cases h : n < 0
  · rw [decide_eq_true h, decB_neg h]
    have h1 : bAt ((⟨[45].toArray⟩ : ByteArray) ++ decB (n.natAbs : Int)) 0 = 45 := by rw [bAt_left _ _ _ (by show 0 < 1; omega)]; rfl
    have h2 : 0 < ((⟨[45].toArray⟩ : ByteArray) ++ decB (n.natAbs : Int)).size := by rw [ByteArray.size_append, ba_size]; show 0 < 1 + _; omega
    rw [h1, decide_eq_true h2]; rfl
  · obtain ⟨u, rfl⟩ := Int.eq_ofNat_of_zero_le (show 0 ≤ n by omega)
    obtain ⟨_, f2, f3, _, _⟩ := decB_facts u (by omega)
    have h3 : isDig (bAt (decB (u : Int)) 0) = true := by
      cases hd : isDig (bAt (decB (u : Int)) 0) with
      | true => rfl
      | false => rw [nOk_false hd _ f3] at f2; cases f2
    unfold isDig at h3
    simp only [Bool.and_eq_true, decide_eq_true_eq] at h3
    have h4 : (bAt (decB (u : Int)) 0 == 45) = false := by rw [beq_eq_false_iff_ne]; omega
    rw [h4, decide_eq_false h]; simp
theorem spec_reads {p q : Int} (h : frOk p q = true) : rdP (frT p q) = p ∧ rdQ (frT p q) = q ∧ whB (tpS (frT p q)) = true ∧ rd2 (frT p q) = true := by
  have hb := frOk_bd h
  have hw0 : w0S (frT p q) = decB p := by
    unfold w0S frT
    split
    · rw [split_one]; rfl
    · rw [split_two]; rfl
  have hneg : negS (frT p q) = decide (p < 0) := by unfold negS; rw [hw0]; exact neg_dec p hb.1
  have htop : tpS (frT p q) = decB (p.natAbs : Int) := by
    unfold tpS
    rw [hneg, hw0]
    by_cases hp : p < 0
    · rw [if_pos (decide_eq_true hp), decB_neg hp]
      exact ext_right ⟨[45].toArray⟩ _
    · rw [if_neg (by simpa using hp), show ((p.natAbs : Nat) : Int) = p by omega]
  have hwt := wh_dec (p.natAbs : Int) (by omega) (by omega)
  have hP : rdP (frT p q) = p := by
    unfold rdP
    rw [hneg, htop, hwt.1]
    by_cases hp : p < 0
    · rw [if_pos (decide_eq_true hp)]; omega
    · rw [if_neg (by simpa using hp)]; omega
  have hwq := wh_dec q (by omega) (by omega)
  refine ⟨hP, ?_, by rw [htop]; exact hwt.2, ?_⟩
  · unfold rdQ w1S
    by_cases h1 : q = 1
    · subst h1
      have e : frT p 1 = decB p := by unfold frT; rw [if_pos rfl]
      rw [e, split_one]; rfl
    · have e : frT p q = decB p ++ slashB ++ decB q := by unfold frT; rw [if_neg h1]
      rw [e, split_two]
      exact hwq.1
  · unfold rd2 w1S
    by_cases h1 : q = 1
    · subst h1
      have e : frT p 1 = decB p := by unfold frT; rw [if_pos rfl]
      rw [e, split_one]; rfl
    · have e : frT p q = decB p ++ slashB ++ decB q := by unfold frT; rw [if_neg h1]
      rw [e, split_two]
      exact hwq.2
theorem read_same (s : ByteArray) : readOk s = rdOk s ∧ (readOk s = true → numV (topS s) = rdP s ∧ numV (botS s) = rdQ s) := by
  have key : ∀ p q, frOk p q = true → frT p q = s → readOk s = true ∧ rdOk s = true ∧ numV (topS s) = rdP s ∧ numV (botS s) = rdQ s := by
    intro p q h e
    subst e
    obtain ⟨a1, a2, a3, a4⟩ := impl_reads h
    obtain ⟨b1, b2, b3, b4⟩ := spec_reads h
    have ef : fracT p q = frT p q := by unfold fracT; rw [if_pos h]
    refine ⟨?_, ?_, by rw [a1, b1], by rw [a2, b2]⟩
    · unfold readOk; rw [a1, a2, a3, a4, h, beq_ba]; rfl
    · unfold rdOk; rw [b1, b2, b3, b4, h, ef, beq_ba]; rfl
  cases h1 : readOk s with
  | true =>
    have h1' := h1
    unfold readOk at h1
    simp only [Bool.and_eq_true, ba_eq, decide_eq_true_eq] at h1
    obtain ⟨_, k2, k3, k4⟩ := key _ _ h1.1.2 h1.2
    exact ⟨k2.symm, fun _ => ⟨k3, k4⟩⟩
  | false =>
    refine ⟨?_, fun h => by cases h⟩
    cases h2 : rdOk s with
    | false => rfl
    | true =>
      unfold rdOk at h2
      simp only [Bool.and_eq_true, ba_eq, decide_eq_true_eq] at h2
      have ef : fracT (rdP s) (rdQ s) = frT (rdP s) (rdQ s) := by unfold fracT; rw [if_pos h2.1.2]
      have := (key _ _ h2.1.2 (by rw [← ef]; exact h2.2)).1
      rw [h1] at this; cases this
end Go.Proofs.YtgophedkejgedaaDoorAi
end

section
/- Contracts: the pairs of a graph. -/
namespace Go.Proofs.YtgophedkejgedaaDoorAi
open Go Go.RowKit
set_option linter.unusedVariables false
set_option linter.unusedSimpArgs false
set_option maxRecDepth 20000

def prE (e : Int) (j k : Nat) : List Fr := ((List.range k).filter fun (i : Nat) => hasB e i j).map fun (i : Nat) => ⟨(i : Int), (j : Int)⟩
theorem prE_zero (e : Int) (j : Nat) : prE e j 0 = [] := rfl
theorem prE_true {e : Int} {j k : Nat} (h : hasB e k j = true) : prE e j (k + 1) = prE e j k ++ [⟨(k : Int), (j : Int)⟩] := by
  unfold prE; rw [List.range_succ, List.filter_append, List.map_append]; simp [h]
theorem prE_false {e : Int} {j k : Nat} (h : hasB e k j = false) : prE e j (k + 1) = prE e j k := by
  unfold prE; rw [List.range_succ, List.filter_append, List.map_append]; simp [h]
def pairsE (e : Int) : Nat → List Fr
  | 0 => []
  | j + 1 => pairsE e j ++ prE e j j
theorem prE_len (e : Int) (j k : Nat) : (prE e j k).length ≤ k := by
  unfold prE; rw [List.length_map]; exact Nat.le_trans (List.length_filter_le _ _) (by simp)
theorem pairsE_len (e : Int) : ∀ j, (pairsE e j).length ≤ j * j
  | 0 => Nat.le_refl _
  | j + 1 => by
    have h1 := pairsE_len e j
    have h2 := prE_len e j j
    have h3 : (j + 1) * (j + 1) = j * j + j + j + 1 := by rw [Nat.add_mul, Nat.mul_add]; omega
    rw [pairsE, List.length_append, h3]; omega
def lvE (N : Nat) (L : List Fr) : AV := if L = [] then .sl [] true else .ref N 2 0 L.length .full
def obE (L : List Fr) : List (Option (List AV)) := if L = [] then [] else [some (flatA (frsA L))]
theorem lvE_nil (N : Nat) : lvE N [] = .sl [] true := rfl
theorem obE_nil : obE [] = [] := rfl
theorem lvE_cons {N : Nat} {L : List Fr} (h : L ≠ []) : lvE N L = .ref N 2 0 L.length .full := if_neg h
theorem obE_cons {L : List Fr} (h : L ≠ []) : obE L = [some (flatA (frsA L))] := if_neg h
theorem frE_snoc (L : List Fr) (p q : Int) : flatA (frsA L) ++ [.int .i64 p, .int .i64 q] = flatA (frsA (L ++ [⟨p, q⟩])) := by
  rw [flatA_append]; rfl
theorem obE_inj (f : Nat → Nat) (L : List Fr) : injB f (obE L).length = true := by
  by_cases hL : L = []
  · rw [hL]; rfl
  · rw [obE_cons hL]; rfl
theorem lvE_lt (N : Nat) (L : List Fr) : AV.lt ((obE L).length + N) (lvE N L) = true := by
  by_cases hL : L = []
  · rw [hL, lvE_nil]; rfl
  · rw [obE_cons hL, lvE_cons hL]; simp
theorem lvE_lt0 (L : List Fr) : AV.lt (obE L).length (lvE 0 L) = true := lvE_lt 0 L
def pairsR (e : Int) (n : Nat) : AV × List (Option (List AV)) := (lvE 0 (pairsE e n), obE (pairsE e n))
noncomputable def sp_edges : List AV → Option (AV × List (Option (List AV))) := pf (ι := (Nat) × (Int)) (α := AV × List (Option (List AV))) (fun ⟨n, e⟩ => n ≤ 5 ∧ 0 ≤ e ∧ e ≤ 4294967295) (fun ⟨n, e⟩ => [.agg [.int .i64 n, .int .u32 e]]) (fun ⟨n, e⟩ => pairsR e n)
theorem sp_edges_eq (n : Nat) (e : Int) (h : n ≤ 5 ∧ 0 ≤ e ∧ e ≤ 4294967295) : sp_edges [.agg [.int .i64 n, .int .u32 e]] = some (pairsR e n) := by
  unfold sp_edges
  exact pf_eq (ι := (Nat) × (Int)) (α := AV × List (Option (List AV))) (n, e) h (by rintro ⟨n', e'⟩ _ e; simp_all [Int.natCast_inj])
def eoSt (n : Nat) (e : Int) (j : Nat) : St := ⟨tl [(1, .ptr 0 0), (3, lvE 1 (pairsE e j)), (8, .int .i64 n), (9, .int .i64 j)], ⟨some [.int .i64 n, .int .u32 e] :: obE (pairsE e j)⟩⟩
def eiSt (n : Nat) (e : Int) (j : Nat) (i : Nat) : St := ⟨tl [(1, .ptr 0 0), (3, lvE 1 (pairsE e j ++ prE e j i)), (4, .int .i64 j), (8, .int .i64 n), (9, .int .i64 j), (12, .int .i64 j), (13, .int .i64 i)], ⟨some [.int .i64 n, .int .u32 e] :: obE (pairsE e j ++ prE e j i)⟩⟩
theorem n_impl_Graph_edges : QN PP 81 sp_edges := by
  refine QN_pf (fun i h => ?_) fun i h => ?_
  · obtain ⟨n, e⟩ := i; first | rfl | simp
  obtain ⟨n, e⟩ := i
  replace h : n ≤ 5 ∧ 0 ≤ e ∧ e ≤ 4294967295 := h
  show T PP 81 [.agg [.int .i64 n, .int .u32 e]] .nil fun r' A' => r' = ((pairsR e n : AV × List (Option (List AV)))).1 ∧ A' = ⟨((pairsR e n : AV × List (Option (List AV)))).2⟩
  unfold pairsR
  refine H_code (Quiet.q1 q_impl_Graph_has Quiet.nil) hmix k_impl_Graph_edges rfl (fun _ => 1) (by simp [AHeap.n, AHeap.nil]) (by intro b hb; simp [AHeap.n, AHeap.nil] at hb <;> subst hb <;> rfl) (obE_inj _ _) (lvE_lt0 _) ?_
  simp -dsimp -implicitDefEqProofs [c_impl_Graph_edges, r_impl_Graph_edges]
  refine wpLoop_st (eoSt n e) (fun j => j ≤ n) (fun j => n - j) 0 (by omega) (Sub.keep (by simp [eoSt]) (by simp [hsub, eoSt, pairsE, obE_nil]) (by simp [eoSt, pairsE, lvE_nil])) ?_
  intro j hj
  simp -dsimp -implicitDefEqProofs [eoSt]
  refine brW_of (fun h => ?_) (fun h => ?_) <;> simp only [decide_eq_true_eq, decide_eq_false_iff_not] at h
  · have hwx := wrapNat (i := j) (by omega)
    have hul := pairsE_len e j
    have hjj : j * j ≤ 16 := Nat.mul_le_mul (by omega : j ≤ 4) (by omega : j ≤ 4)
    simp -dsimp -implicitDefEqProofs
    refine wpLoop_st (eiSt n e j) (fun i => i ≤ j) (fun i => j - i) 0 (by omega) (Sub.keep (by simp [eiSt, prE_zero]) (by by_cases hL : pairsE e j = [] <;> simp [hsub, eiSt, prE_zero, hL, obE_nil, obE_cons]) (by simp [eiSt, prE_zero, lvE_lt])) ?_
    intro i hi
    have hrl := prE_len e j i
    simp -dsimp -implicitDefEqProofs [eiSt]
    refine brW_of (fun h2 => ?_) (fun h2 => ?_) <;> simp only [decide_eq_true_eq, decide_eq_false_iff_not] at h2
    · have hwi := wrapNat (i := i) (by omega)
      have hb := sp_has_eq n e i j ⟨⟨by omega, by omega⟩, by unfold vx; omega⟩
      cases hv : hasB e i j with
      | true =>
        have e1 := prE_true (e := e) (j := j) (k := i) hv
        have e2 := frE_snoc (pairsE e j ++ prE e j i) i j
        have e4 : pairsE e j ++ prE e j (i + 1) = (pairsE e j ++ prE e j i) ++ [⟨(i : Int), (j : Int)⟩] := by rw [e1, List.append_assoc]
        have hLl : (pairsE e j ++ prE e j i).length ≤ 20 := by rw [List.length_append]; omega
        rw [hv] at hb
        by_cases hL : pairsE e j ++ prE e j i = []
        · rw [hL] at e4
          have l1 : 1 * 17 ≤ mostBytes := by decide
          rw [hL]
          simp -dsimp -implicitDefEqProofs [hb, hwi, lvE_nil, obE_nil, l1]
          exact .mk (i + 1) (by omega) (by omega) (Sub.mk' (fun b => if b = 1 then 2 else b) (by simp) (by intro b hb; simp at hb <;> omega) (by show injB _ (some _ :: obE (pairsE e j ++ prE e j (i + 1))).length = true; rw [e4, obE_cons (by simp)]; rfl) (by simp [hsub, eiSt, e4, obE, flatA_cons]) (by simp [eiSt, e4, lvE, obE, hwi]))
        · generalize hL2 : pairsE e j ++ prE e j (i + 1) = L2 at *
          generalize pairsE e j ++ prE e j i = L at *
          have l1 : (L.length + 1) * 17 ≤ mostBytes := by simp only [mostBytes]; omega
          have l2 : ¬ ((L.length + 1) * 2 ≤ L.length * 2) := by omega
          have l3 : (flatA (frsA L)).take (L.length * 2) = flatA (frsA L) := List.take_of_length_le (by simp)
          have e5 : L2 ≠ [] := by rw [e4]; simp
          simp -dsimp -implicitDefEqProofs [hb, hwi, l1, l2, l3, e2, lvE_cons hL, obE_cons hL]
          exact .mk (i + 1) (by omega) (by omega) (Sub.mk' (fun b => if b = 1 then 3 else b) (by simp) (by intro b hb; simp at hb <;> omega) (by show injB _ (some _ :: obE (pairsE e j ++ prE e j (i + 1))).length = true; rw [hL2, obE_cons e5]; rfl) (by simp [hsub, eiSt, hL2, e4, obE_cons]) (by simp [eiSt, hL2, e4, lvE_cons, obE_cons, hwi]))
      | false =>
        have e1 := prE_false (e := e) (j := j) (k := i) hv
        rw [hv] at hb
        simp -dsimp -implicitDefEqProofs [hb, hwi]
        exact .mk (i + 1) (by omega) (by omega) (Sub.keep (by simp [eiSt]) (by by_cases hL : pairsE e j ++ prE e j i = [] <;> simp [hsub, eiSt, e1, hL, obE_nil, obE_cons]) (by simp [eiSt, e1, hwi, lvE_lt]))
    · obtain rfl : i = j := by omega
      simp -dsimp -implicitDefEqProofs [hwx]
      exact .mk (i + 1) (by omega) (by omega) (Sub.keep (by simp [eoSt]) (by by_cases hL : pairsE e i ++ prE e i i = [] <;> simp [hsub, eoSt, pairsE, hL, obE_nil, obE_cons]) (by simp [eoSt, pairsE, hwx, lvE_lt]))
  · obtain rfl : j = n := by omega
    by_cases hL : pairsE e j = []
    · simp -dsimp -implicitDefEqProofs [hsub, hL, lvE_nil, obE_nil]
    · simp -dsimp -implicitDefEqProofs [hsub, lvE_cons hL, obE_cons hL]
def soSt (n : Nat) (e : Int) (j : Nat) : St := ⟨tl [(1, .ptr 0 0), (3, lvE 1 (pairsE e (j + 1))), (4, .int .i64 ((j : Int) + 1))], ⟨some [.int .i64 n, .int .u32 e] :: obE (pairsE e (j + 1))⟩⟩
def siSt (n : Nat) (e : Int) (j : Nat) (i : Nat) : St := ⟨tl [(1, .ptr 0 0), (3, lvE 1 (pairsE e (j + 1) ++ prE e (j + 1) i)), (4, .int .i64 ((j : Int) + 1)), (5, .int .i64 i)], ⟨some [.int .i64 n, .int .u32 e] :: obE (pairsE e (j + 1) ++ prE e (j + 1) i)⟩⟩
theorem n_spec_l01Pairs : QN PP 133 sp_edges := by
  refine QN_pf (fun i h => ?_) fun i h => ?_
  · obtain ⟨n, e⟩ := i; first | rfl | simp
  obtain ⟨n, e⟩ := i
  replace h : n ≤ 5 ∧ 0 ≤ e ∧ e ≤ 4294967295 := h
  show T PP 133 [.agg [.int .i64 n, .int .u32 e]] .nil fun r' A' => r' = ((pairsR e n : AV × List (Option (List AV)))).1 ∧ A' = ⟨((pairsR e n : AV × List (Option (List AV)))).2⟩
  unfold pairsR
  refine H_code (Quiet.q1 q_spec_l01Joined Quiet.nil) hmix k_spec_l01Pairs rfl (fun _ => 1) (by simp [AHeap.n, AHeap.nil]) (by intro b hb; simp [AHeap.n, AHeap.nil] at hb <;> subst hb <;> rfl) (obE_inj _ _) (lvE_lt0 _) ?_
  have p1 : pairsE e 1 = [] := rfl
  simp -dsimp -implicitDefEqProofs [c_spec_l01Pairs, r_spec_l01Pairs]
  refine wpLoop_st (soSt n e) (fun j => j = 0 ∨ j + 1 ≤ n) (fun j => n - j) 0 (.inl rfl) (Sub.keep (by simp [soSt]) (by simp [hsub, soSt, p1, obE_nil]) (by simp [soSt, p1, lvE_nil])) ?_
  intro j hj
  simp -dsimp -implicitDefEqProofs [soSt]
  refine brW_of (fun h => ?_) (fun h => ?_) <;> simp only [decide_eq_true_eq, decide_eq_false_iff_not] at h
  · have hwx : IntKind.wrap .i64 ((j : Int) + 1 + 1) = (j : Int) + 1 + 1 := wrapI64 (by omega) (by omega)
    have hul := pairsE_len e (j + 1)
    have hjj : (j + 1) * (j + 1) ≤ 16 := Nat.mul_le_mul (by omega : j + 1 ≤ 4) (by omega : j + 1 ≤ 4)
    simp -dsimp -implicitDefEqProofs
    refine wpLoop_st (siSt n e j) (fun i => i ≤ j + 1) (fun i => j + 1 - i) 0 (by omega) (Sub.keep (by simp [siSt, prE_zero]) (by by_cases hL : pairsE e (j + 1) = [] <;> simp [hsub, siSt, prE_zero, hL, obE_nil, obE_cons]) (by simp [siSt, prE_zero, lvE_lt])) ?_
    intro i hi
    have hrl := prE_len e (j + 1) i
    simp -dsimp -implicitDefEqProofs [siSt]
    refine brW_of (fun h2 => ?_) (fun h2 => ?_) <;> simp only [decide_eq_true_eq, decide_eq_false_iff_not] at h2
    · have hwi := wrapNat (i := i) (by omega)
      have hb := sp_l01Joined_eq n e i ((j : Int) + 1) ⟨⟨by omega, by omega⟩, ⟨by omega, by omega⟩, by omega, by omega⟩
      have hne : decide ((i : Int) ≠ (j : Int) + 1) = true := decide_eq_true (by omega)
      cases hv : hasB e i ((j + 1 : Nat) : Int) with
      | true =>
        have hv' : joinedB e i ((j : Int) + 1) = true := by unfold joinedB; rw [hne]; exact hv
        have e1 := prE_true (e := e) (j := j + 1) (k := i) hv
        have e2 := frE_snoc (pairsE e (j + 1) ++ prE e (j + 1) i) i ((j : Int) + 1)
        have e4 : pairsE e (j + 1) ++ prE e (j + 1) (i + 1) = (pairsE e (j + 1) ++ prE e (j + 1) i) ++ [⟨(i : Int), (j : Int) + 1⟩] := by rw [e1, List.append_assoc]; rfl
        have hLl : (pairsE e (j + 1) ++ prE e (j + 1) i).length ≤ 20 := by rw [List.length_append]; omega
        rw [hv'] at hb
        by_cases hL : pairsE e (j + 1) ++ prE e (j + 1) i = []
        · rw [hL] at e4
          have l1 : 1 * 17 ≤ mostBytes := by decide
          rw [hL]
          simp -dsimp -implicitDefEqProofs [hb, hwi, lvE_nil, obE_nil, l1]
          exact .mk (i + 1) (by omega) (by omega) (Sub.mk' (fun b => if b = 1 then 2 else b) (by simp) (by intro b hb; simp at hb <;> omega) (by show injB _ (some _ :: obE (pairsE e (j + 1) ++ prE e (j + 1) (i + 1))).length = true; rw [e4, obE_cons (by simp)]; rfl) (by simp [hsub, siSt, e4, obE, flatA_cons]) (by simp [siSt, e4, lvE, obE, hwi]))
        · generalize hL2 : pairsE e (j + 1) ++ prE e (j + 1) (i + 1) = L2 at *
          generalize pairsE e (j + 1) ++ prE e (j + 1) i = L at *
          have l1 : (L.length + 1) * 17 ≤ mostBytes := by simp only [mostBytes]; omega
          have l2 : ¬ ((L.length + 1) * 2 ≤ L.length * 2) := by omega
          have l3 : (flatA (frsA L)).take (L.length * 2) = flatA (frsA L) := List.take_of_length_le (by simp)
          have e5 : L2 ≠ [] := by rw [e4]; simp
          simp -dsimp -implicitDefEqProofs [hb, hwi, l1, l2, l3, e2, lvE_cons hL, obE_cons hL]
          exact .mk (i + 1) (by omega) (by omega) (Sub.mk' (fun b => if b = 1 then 3 else b) (by simp) (by intro b hb; simp at hb <;> omega) (by show injB _ (some _ :: obE (pairsE e (j + 1) ++ prE e (j + 1) (i + 1))).length = true; rw [hL2, obE_cons e5]; rfl) (by simp [hsub, siSt, hL2, e4, obE_cons]) (by simp [siSt, hL2, e4, lvE_cons, obE_cons, hwi]))
      | false =>
        have hv' : joinedB e i ((j : Int) + 1) = false := by unfold joinedB; rw [hne]; exact hv
        have e1 := prE_false (e := e) (j := j + 1) (k := i) hv
        rw [hv'] at hb
        simp -dsimp -implicitDefEqProofs [hb, hwi]
        exact .mk (i + 1) (by omega) (by omega) (Sub.keep (by simp [siSt]) (by by_cases hL : pairsE e (j + 1) ++ prE e (j + 1) i = [] <;> simp [hsub, siSt, e1, hL, obE_nil, obE_cons]) (by simp [siSt, e1, hwi, lvE_lt]))
    · obtain rfl : i = j + 1 := by omega
      have e6 : pairsE e (j + 1) ++ prE e (j + 1) (j + 1) = pairsE e (j + 1 + 1) := rfl
      rw [e6]
      simp -dsimp -implicitDefEqProofs [hwx]
      exact .mk (j + 1) (by omega) (by omega) (Sub.keep (by simp [soSt]) (by by_cases hL : pairsE e (j + 1 + 1) = [] <;> simp [hsub, soSt, hL, obE_nil, obE_cons]) (by simp [soSt, hwx, lvE_lt]))
  · have e7 : pairsE e (j + 1) = pairsE e n := by
      rcases hj with rfl | hj
      · have : n = 0 ∨ n = 1 := by omega
        rcases this with rfl | rfl <;> rfl
      · rw [show j + 1 = n by omega]
    rw [e7]
    by_cases hL : pairsE e n = []
    · simp -dsimp -implicitDefEqProofs [hsub, hL, lvE_nil, obE_nil]
    · simp -dsimp -implicitDefEqProofs [hsub, lvE_cons hL, obE_cons hL]
end Go.Proofs.YtgophedkejgedaaDoorAi
end

section
/- Contracts and laws: GraphText, FlagText. -/
namespace Go.Proofs.YtgophedkejgedaaDoorAi
open Go Go.RowKit
set_option linter.unusedVariables false
set_option linter.unusedSimpArgs false
set_option maxRecDepth 20000

theorem getF0 (l : List Fr) (i : Nat) (h : i < l.length) (h2 : i * 2 < (flatA (frsA l)).length) : (flatA (frsA l))[i * 2] = .int .i64 l[i].p := by
  have := get_fr0 l i h
  rw [List.getElem?_eq_getElem h2] at this
  exact Option.some.inj this
theorem getF1 (l : List Fr) (i : Nat) (h : i < l.length) (h2 : i * 2 + 1 < (flatA (frsA l)).length) : (flatA (frsA l))[i * 2 + 1] = .int .i64 l[i].q := by
  have := get_fr1 l i h
  rw [List.getElem?_eq_getElem h2] at this
  exact Option.some.inj this
def sepB : ByteArray := ⟨#[32]⟩
def dashB : ByteArray := ⟨#[45]⟩
def graphB : ByteArray := ⟨#[103, 114, 97, 112, 104, 32]⟩
def edgeT (p q : Int) : ByteArray := sepB ++ decB p ++ dashB ++ decB q
def edT (w : ByteArray) (L : List Fr) : ByteArray := L.foldl (fun w x => w ++ edgeT x.p x.q) w
theorem edT_snoc (w : ByteArray) (L : List Fr) (i : Nat) (h : i < L.length) : edT w (L.take (i + 1)) = edT w (L.take i) ++ edgeT L[i].p L[i].q := by
  rw [take_snoc L i h]; unfold edT; rw [List.foldl_append]; rfl
theorem edgeT_size {p q : Int} (hp : -9223372036854775808 ≤ p ∧ p ≤ 9223372036854775807) (hq : -9223372036854775808 ≤ q ∧ q ≤ 9223372036854775807) : (edgeT p q).size ≤ 44 := by
  have h1 := decB_size p hp.1 hp.2
  have h2 := decB_size q hq.1 hq.2
  have h3 : sepB.size = 1 := rfl
  have h4 : dashB.size = 1 := rfl
  unfold edgeT
  simp only [ByteArray.size_append]
  omega
theorem edT_size (w : ByteArray) (L : List Fr) (hL : ∀ x ∈ L, (0 ≤ x.p ∧ x.p < 5) ∧ (0 ≤ x.q ∧ x.q < 5)) : (edT w L).size ≤ w.size + L.length * 44 := by
  induction L generalizing w with
  | nil => simp [edT]
  | cons x L ih =>
    have hx := hL x (List.mem_cons_self ..)
    have h1 := ih (w ++ edgeT x.p x.q) fun y hy => hL y (List.mem_cons_of_mem _ hy)
    have h2 := edgeT_size (p := x.p) (q := x.q) (by omega) (by omega)
    show (edT (w ++ edgeT x.p x.q) L).size ≤ _
    rw [ByteArray.size_append] at h1
    rw [List.length_cons]
    omega
theorem prE_in {e : Int} {j k : Nat} (hj : j < 5) (hk : k ≤ 5) : ∀ x ∈ prE e j k, (0 ≤ x.p ∧ x.p < 5) ∧ (0 ≤ x.q ∧ x.q < 5) := by
  intro x hx
  unfold prE at hx
  obtain ⟨i, hi, rfl⟩ := List.mem_map.1 hx
  have := List.mem_range.1 (List.mem_filter.1 hi).1
  simp only
  omega
theorem pairsE_in (e : Int) : ∀ (j : Nat), j ≤ 5 → ∀ x ∈ pairsE e j, (0 ≤ x.p ∧ x.p < 5) ∧ (0 ≤ x.q ∧ x.q < 5)
  | 0, _ => by intro x hx; cases hx
  | j + 1, hj => by
    intro x hx
    rw [pairsE] at hx
    rcases List.mem_append.1 hx with hx | hx
    · exact pairsE_in e j (by omega) x hx
    · exact prE_in (by omega) (by omega) x hx
def grT (e : Int) (n : Nat) : ByteArray := edT (graphB ++ decB n) (pairsE e n)
theorem grT_len {e : Int} {n : Nat} (h : n ≤ 5) : (pairsE e n).length ≤ 25 := Nat.le_trans (pairsE_len e n) (Nat.mul_le_mul h h)
theorem edT_take {e : Int} {n : Nat} (h : n ≤ 5) (i : Nat) : (edT (graphB ++ decB n) ((pairsE e n).take i)).size ≤ 1200 := by
  have h1 := edT_size (graphB ++ decB n) ((pairsE e n).take i) fun x hx => pairsE_in e n h x (List.mem_of_mem_take hx)
  have h2 := grT_len (e := e) h
  have h3 : ((pairsE e n).take i).length ≤ (pairsE e n).length := by rw [List.length_take]; omega
  have h4 := decB_size n (by omega) (by omega)
  have h5 : graphB.size = 6 := rfl
  rw [ByteArray.size_append] at h1
  omega
noncomputable def sp_graphTx : List AV → Option (AV) := pf (ι := (Nat) × (Int)) (α := AV) (fun ⟨n, e⟩ => n ≤ 5 ∧ 0 ≤ e ∧ e ≤ 4294967295) (fun ⟨n, e⟩ => [.agg [.int .i64 n, .int .u32 e]]) (fun ⟨n, e⟩ => .str (grT e n))
theorem sp_graphTx_eq (n : Nat) (e : Int) (h : n ≤ 5 ∧ 0 ≤ e ∧ e ≤ 4294967295) : sp_graphTx [.agg [.int .i64 n, .int .u32 e]] = some (.str (grT e n)) := by
  unfold sp_graphTx
  exact pf_eq (ι := (Nat) × (Int)) (α := AV) (n, e) h (by rintro ⟨n', e'⟩ _ e; simp_all [Int.natCast_inj])
theorem q_impl_Graph_text : QP PP 88 sp_graphTx := by
  refine QP_pf (fun i h => ?_) fun i h => ?_
  · obtain ⟨n, e⟩ := i; exact ⟨by first | rfl | simp, by first | rfl | simp⟩
  obtain ⟨n, e⟩ := i
  replace h : n ≤ 5 ∧ 0 ≤ e ∧ e ≤ 4294967295 := h
  refine P_code (Quiet.q1 q_impl_decimal (Quiet.e1 n_impl_Graph_edges.toE Quiet.nil)) hmix k_impl_Graph_text rfl ?_ ?_
  · first | rfl | simp
  show wpc 0 PP _ c_impl_Graph_text (initSt [.agg [.int .i64 n, .int .u32 e]] .nil) (endP r_impl_Graph_text (.str (grT e n)))
  have hd := sp_decimal_eq n (by omega)
  have hs := decB_size n (by omega) (by omega)
  have he := sp_edges_eq n e h
  have z0 : 6 + (decB n).size ≤ 9223372036854775807 := by omega
  have hin := pairsE_in e n h.1
  have hlen := grT_len (e := e) h.1
  unfold pairsR at he
  unfold grT
  by_cases hL : pairsE e n = []
  · rw [hL, lvE_nil, obE_nil] at he
    rw [hL]
    simp -dsimp -implicitDefEqProofs [c_impl_Graph_text, r_impl_Graph_text, hd, he, z0]
    refine wpLoop_st (fun (_ : Unit) => ⟨tl [(3, .str (graphB ++ decB n)), (11, .sl [] true), (12, .int .i64 0), (13, .int .i64 0)], ⟨[]⟩⟩) (fun _ => True) (fun _ => 0) () trivial (Sub.keep (by simp) (by simp [hsub]) (by simp [graphB])) ?_
    intro i hi
    simp -dsimp -implicitDefEqProofs [edT]
  · have ht := fun i => edT_take (e := e) h.1 i
    generalize pairsE e n = L at *
    rw [lvE_cons hL, obE_cons hL] at he
    simp -dsimp -implicitDefEqProofs [c_impl_Graph_text, r_impl_Graph_text, hd, he, z0]
    refine wpLoop_st (fun (i : Nat) => ⟨tl [(3, .str (edT (graphB ++ decB n) (L.take i))), (11, .ref 1 2 0 L.length .full), (12, .int .i64 L.length), (13, .int .i64 i)], ⟨[some [.int .i64 n, .int .u32 e], some (flatA (frsA L))]⟩⟩) (fun i => i ≤ L.length) (fun i => L.length - i) 0 (by omega) (Sub.keep (by simp) (by simp [hsub]) (by simp [graphB, edT])) ?_
    intro i hi
    simp -dsimp -implicitDefEqProofs
    refine brW_of (fun h2 => ?_) (fun h2 => ?_) <;> simp only [decide_eq_true_eq, decide_eq_false_iff_not] at h2
    · have hx : i < L.length := by omega
      have hwi := wrapNat (i := i) (by omega)
      have hm := hin L[i] (List.getElem_mem hx)
      have hp := sp_decimal_eq L[i].p (by omega)
      have hq := sp_decimal_eq L[i].q (by omega)
      have hes := edT_snoc (graphB ++ decB n) L i hx
      have ht1 := ht i
      have q0 := get_fr0 L i hx
      have q1 := get_fr1 L i hx
      have g0 := getF0 L i hx (by simp; omega)
      have g1 := getF1 L i hx (by simp; omega)
      have sp := decB_size L[i].p (by omega) (by omega)
      have sq := decB_size L[i].q (by omega) (by omega)
      have z1 : 1 + (decB L[i].p).size ≤ 9223372036854775807 := by omega
      have z2 : 1 + (decB L[i].p).size + 1 ≤ 9223372036854775807 := by omega
      have z3 : 1 + (decB L[i].p).size + 1 + (decB L[i].q).size ≤ 9223372036854775807 := by omega
      have z4 : (edT (graphB ++ decB n) (L.take i)).size + (1 + (decB L[i].p).size + 1 + (decB L[i].q).size) ≤ 9223372036854775807 := by omega
      simp -dsimp -implicitDefEqProofs [hx, hp, hq, hwi, g0, g1, q0, q1, z1, z2, z3, z4]
      exact .mk (i + 1) (by omega) (by omega) (Sub.keep (by simp) (by simp [hsub]) (by simp [hes, edgeT, sepB, dashB, hwi]))
    · obtain rfl : i = L.length := by omega
      simp -dsimp -implicitDefEqProofs
theorem graphOk_in {n e : Int} (h : graphOk n e = true) : 0 ≤ n ∧ n ≤ 5 := by
  unfold graphOk at h
  exact (of_decide_eq_true h).1
def graphT (n e : Int) : ByteArray := if graphOk n e = true then grT e n.toNat else noB
noncomputable def sp_graphText : List AV → Option (AV) := pf (ι := (Int) × (Int)) (α := AV) (fun ⟨n, e⟩ => 0 ≤ e ∧ e ≤ 4294967295) (fun ⟨n, e⟩ => [.agg [.int .i64 n, .int .u32 e]]) (fun ⟨n, e⟩ => .str (graphT n e))
theorem sp_graphText_eq (n e : Int) (h : 0 ≤ e ∧ e ≤ 4294967295) : sp_graphText [.agg [.int .i64 n, .int .u32 e]] = some (.str (graphT n e)) := by
  unfold sp_graphText
  exact pf_eq (ι := (Int) × (Int)) (α := AV) (n, e) h (by rintro ⟨n', e'⟩ _ e; simp_all [Int.natCast_inj])
theorem q_impl_GraphText : QP PP 33 sp_graphText := by
  refine QP_pf (fun i h => ?_) fun i h => ?_
  · obtain ⟨n, e⟩ := i; exact ⟨by first | rfl | simp, by first | rfl | simp⟩
  obtain ⟨n, e⟩ := i
  replace h : 0 ≤ e ∧ e ≤ 4294967295 := h
  refine P_code (Quiet.q1 q_impl_ValidGraph (Quiet.q1 q_impl_Graph_text Quiet.nil)) hmix k_impl_GraphText rfl ?_ ?_
  · first | rfl | simp
  show wpc 0 PP _ c_impl_GraphText (initSt [.agg [.int .i64 n, .int .u32 e]] .nil) (endP r_impl_GraphText (.str (graphT n e)))
  have ho := sp_graphOk_eq n e h
  cases hf : graphOk n e with
  | false =>
    rw [hf] at ho
    simp -dsimp -implicitDefEqProofs [c_impl_GraphText, r_impl_GraphText, ho, hf, graphT, noB]
  | true =>
    rw [hf] at ho
    have hn := graphOk_in hf
    obtain ⟨m, rfl⟩ := Int.eq_ofNat_of_zero_le hn.1
    have ht := sp_graphTx_eq m e ⟨by omega, h⟩
    simp -dsimp -implicitDefEqProofs [c_impl_GraphText, r_impl_GraphText, ho, hf, graphT, ht]
theorem q_spec_GraphText : QP PP 98 sp_graphText := by
  refine QP_pf (fun i h => ?_) fun i h => ?_
  · obtain ⟨n, e⟩ := i; exact ⟨by first | rfl | simp, by first | rfl | simp⟩
  obtain ⟨n, e⟩ := i
  replace h : 0 ≤ e ∧ e ≤ 4294967295 := h
  refine P_code (Quiet.q1 q_spec_l01Ok (Quiet.q1 q_spec_Decimal (Quiet.e1 n_spec_l01Pairs.toE Quiet.nil))) hmix k_spec_GraphText rfl ?_ ?_
  · first | rfl | simp
  show wpc 0 PP _ c_spec_GraphText (initSt [.agg [.int .i64 n, .int .u32 e]] .nil) (endP r_spec_GraphText (.str (graphT n e)))
  have ho := sp_graphOk_eq n e h
  cases hf : graphOk n e with
  | false =>
    rw [hf] at ho
    simp -dsimp -implicitDefEqProofs [c_spec_GraphText, r_spec_GraphText, ho, hf, graphT, noB]
  | true =>
    rw [hf] at ho
    have hn := graphOk_in hf
    obtain ⟨m, rfl⟩ := Int.eq_ofNat_of_zero_le hn.1
    have hm5 : m ≤ 5 := by omega
    have hd := sp_decS_eq m (by omega)
    have hs := decB_size m (by omega) (by omega)
    have he := sp_edges_eq m e ⟨hm5, h⟩
    have z0 : 6 + (decB m).size ≤ 9223372036854775807 := by omega
    have hin := pairsE_in e m hm5
    have hlen := grT_len (e := e) hm5
    unfold pairsR at he
    unfold graphT
    rw [if_pos hf, Int.toNat_natCast]
    unfold grT
    by_cases hL : pairsE e m = []
    · rw [hL, lvE_nil, obE_nil] at he
      rw [hL]
      simp -dsimp -implicitDefEqProofs [c_spec_GraphText, r_spec_GraphText, ho, hd, he, z0]
      refine wpLoop_st (fun (_ : Unit) => ⟨tl [(3, .str (graphB ++ decB m)), (4, .sl [] true), (5, .int .i64 0)], ⟨[]⟩⟩) (fun _ => True) (fun _ => 0) () trivial (Sub.keep (by simp) (by simp [hsub]) (by simp [graphB])) ?_
      intro i hi
      simp -dsimp -implicitDefEqProofs [edT]
    · have ht := fun i => edT_take (e := e) hm5 i
      generalize pairsE e m = L at *
      rw [lvE_cons hL, obE_cons hL] at he
      simp -dsimp -implicitDefEqProofs [c_spec_GraphText, r_spec_GraphText, ho, hd, he, z0]
      refine wpLoop_st (fun (i : Nat) => ⟨tl [(3, .str (edT (graphB ++ decB m) (L.take i))), (4, .ref 1 2 0 L.length .full), (5, .int .i64 i)], ⟨[some [.int .i64 m, .int .u32 e], some (flatA (frsA L))]⟩⟩) (fun i => i ≤ L.length) (fun i => L.length - i) 0 (by omega) (Sub.keep (by simp) (by simp [hsub]) (by simp [graphB, edT])) ?_
      intro i hi
      simp -dsimp -implicitDefEqProofs
      refine brW_of (fun h2 => ?_) (fun h2 => ?_) <;> simp only [decide_eq_true_eq, decide_eq_false_iff_not] at h2
      · have hx : i < L.length := by omega
        have hwi := wrapNat (i := i) (by omega)
        have hmm := hin L[i] (List.getElem_mem hx)
        have hp := sp_decS_eq L[i].p (by omega)
        have hq := sp_decS_eq L[i].q (by omega)
        have hes := edT_snoc (graphB ++ decB m) L i hx
        have ht1 := ht i
        have q0 := get_fr0 L i hx
        have q1 := get_fr1 L i hx
        have g0 := getF0 L i hx (by simp; omega)
        have g1 := getF1 L i hx (by simp; omega)
        have sp := decB_size L[i].p (by omega) (by omega)
        have sq := decB_size L[i].q (by omega) (by omega)
        have z1 : 1 + (decB L[i].p).size ≤ 9223372036854775807 := by omega
        have z2 : 1 + (decB L[i].p).size + 1 ≤ 9223372036854775807 := by omega
        have z3 : 1 + (decB L[i].p).size + 1 + (decB L[i].q).size ≤ 9223372036854775807 := by omega
        have z4 : (edT (graphB ++ decB m) (L.take i)).size + (1 + (decB L[i].p).size + 1 + (decB L[i].q).size) ≤ 9223372036854775807 := by omega
        simp -dsimp -implicitDefEqProofs [hx, hp, hq, hwi, g0, g1, q0, q1, z1, z2, z3, z4]
        exact .mk (i + 1) (by omega) (by omega) (Sub.keep (by simp) (by simp [hsub]) (by simp [hes, edgeT, sepB, dashB, hwi]))
      · obtain rfl : i = L.length := by omega
        simp -dsimp -implicitDefEqProofs
abbrev tyGraphT : Ty := .st [.int .i64, .int .u32]
end Go.Proofs.YtgophedkejgedaaDoorAi
end
