/- Contracts, joined. -/
import Derived.Test.YtlglgcmpeabdnaaGreatDoorMrp1
import Derived.Test.YtlglgcmpeabdnaaGreatDoorAiX
import Derived.Test.YtlglgcmpeabdnaaGreatDoorProg
import Derived.Test.YtlglgcmpeabdnaaGreatDoorShelfB
section
/- Contracts: numbers and pieces of texts of the reference. -/
namespace Go.Proofs.YtlglgcmpeabdnaaGreatDoorAi
open Go Go.RowKit
set_option linter.unusedVariables false
set_option linter.unusedSimpArgs false
set_option maxRecDepth 20000

def bAt (s : ByteArray) (i : Nat) : Int := ((s.data.toList[i]?.getD 0).toNat : Int)
theorem bAt_in (s : ByteArray) (i : Nat) : 0 ≤ bAt s i ∧ bAt s i ≤ 255 := by
  unfold bAt
  have := (s.data.toList[i]?.getD 0).toNat_lt
  omega
theorem bAt_get (s : ByteArray) (i : Nat) (h : i < s.size) : ((s[i]'h).toNat : Int) = bAt s i := by
  have h' : i < s.data.toList.length := by rw [Array.length_toList]; exact h
  unfold bAt
  rw [List.getElem?_eq_getElem h']
  rfl
theorem idx_at (s : ByteArray) (i : Nat) (h : i < s.size) : bytA s (i : Int) = some (.int .u8 (bAt s i)) := by
  unfold bytA
  rw [dif_pos ⟨by omega, by simpa using h⟩]
  congr 2
  exact bAt_get s i h
def isDig (c : Int) : Bool := decide (48 ≤ c) && decide (c ≤ 57)
def nV (s : ByteArray) : Nat → Int
  | 0 => 0
  | i + 1 => nV s i * 10 + (bAt s i - 48)
def nOk (s : ByteArray) : Nat → Bool
  | 0 => true
  | i + 1 => nOk s i && isDig (bAt s i)
theorem nV_in (s : ByteArray) : ∀ i, nOk s i = true → 0 ≤ nV s i ∧ nV s i < 10 ^ i
  | 0, _ => by simp [nV]
  | i + 1, h => by
    simp only [nOk, isDig, Bool.and_eq_true, decide_eq_true_eq] at h
    have ih := nV_in s i h.1
    simp only [nV]
    have : (10 : Int) ^ (i + 1) = 10 ^ i * 10 := Int.pow_succ ..
    omega
theorem nOk_false {s : ByteArray} {i : Nat} (h : isDig (bAt s i) = false) : ∀ j, i < j → nOk s j = false
  | 0, h0 => by omega
  | j + 1, h0 => by
    rw [nOk]
    by_cases e : i = j
    · subst e; rw [h]; simp
    · rw [nOk_false h j (by omega)]; rfl
def l01B (s : ByteArray) : Bool := !(decide (s.size < 1) || decide (9 < s.size)) && !((bAt s 0 == 48) && decide (1 < s.size)) && nOk s s.size
def l01V (s : ByteArray) : Int := if l01B s = true then nV s s.size else 0
noncomputable def sp_l01Num : List AV → Option (AV) := pf (ι := (ByteArray)) (α := AV) (fun s => s.size ≤ 1048576) (fun s => [.str s]) (fun s => .tup [.int .i64 (l01V s), .bool (l01B s)])
theorem sp_l01Num_eq (s : ByteArray) (h : s.size ≤ 1048576) : sp_l01Num [.str s] = some (.tup [.int .i64 (l01V s), .bool (l01B s)]) := by
  unfold sp_l01Num
  exact pf_eq (ι := (ByteArray)) (α := AV) s h (by rintro s' _ e; simp_all [Int.natCast_inj])
theorem q_spec_l01Number : QP PP 28 sp_l01Num := by
  refine QP_pf (fun s h => ?_) fun s h => ?_
  · exact ⟨by first | rfl | simp, by first | rfl | simp⟩
  replace h : s.size ≤ 1048576 := h
  refine P_code Quiet.nil hmix k_spec_l01Number rfl ?_ ?_
  · first | rfl | simp
  show wpc 0 PP _ c_spec_l01Number (initSt [.str s] .nil) (endP r_spec_l01Number (.tup [.int .i64 (l01V s), .bool (l01B s)]))
  by_cases h1 : s.size < 1
  · have hv : l01B s = false := by unfold l01B; simp [h1]
    have hz : s.size = 0 := by omega
    simp -dsimp -implicitDefEqProofs [c_spec_l01Number, r_spec_l01Number, hz, hv, l01V]
  by_cases h9 : 9 < s.size
  · have hv : l01B s = false := by unfold l01B; simp [h9]
    have h1' : ¬ ((s.size : Int) < 1) := by omega
    have h9' : (9 : Int) < s.size := by omega
    simp -dsimp -implicitDefEqProofs [c_spec_l01Number, r_spec_l01Number, h1, h9, h1', h9', hv, l01V]
  have h1' : ¬ ((s.size : Int) < 1) := by omega
  have h9' : ¬ (9 : Int) < s.size := by omega
  have i0 : bytA s 0 = some (.int .u8 (bAt s 0)) := idx_at s 0 (by omega)
  by_cases hz : (bAt s 0 == 48) = true ∧ 1 < s.size
  · have hv : l01B s = false := by unfold l01B; rw [hz.1]; simp [hz.2]
    have hz2 : (1 : Int) < s.size := by omega
    simp -dsimp -implicitDefEqProofs [c_spec_l01Number, r_spec_l01Number, h1, h9, h1', h9', i0, hz.1, hz.2, hz2, hv, l01V]
  have hz' : ((bAt s 0 == 48) && decide ((1 : Int) < s.size)) = false := by
    cases e : (bAt s 0 == 48) with
    | false => rfl
    | true =>
      have : ¬ 1 < s.size := fun h => hz ⟨e, h⟩
      simp; omega
  have hz'' : ((bAt s 0 == 48) && decide (1 < s.size)) = false := by
    cases e : (bAt s 0 == 48) with
    | false => rfl
    | true =>
      have : ¬ 1 < s.size := fun h => hz ⟨e, h⟩
      simp; omega
  have hB : l01B s = nOk s s.size := by unfold l01B; rw [hz'']; simp [h1, h9]
  cases e48 : (bAt s 0 == 48) <;> rw [e48] at hz' <;> simp only [Bool.false_and, Bool.true_and, decide_eq_false_iff_not] at hz'
  all_goals simp -dsimp -implicitDefEqProofs [c_spec_l01Number, r_spec_l01Number, h1, h9, h1', h9', i0, e48, hz']
  all_goals
    refine wpLoop_st (fun (i : Nat) => ⟨tl [(0, .str s), (4, .int .i64 (nV s i)), (5, .int .i64 i)], ⟨[]⟩⟩) (fun i => i ≤ s.size ∧ nOk s i = true) (fun i => s.size - i) 0 ⟨by omega, rfl⟩ (Sub.keep (by simp) (by simp [hsub]) (by simp [nV])) ?_
    rintro i ⟨hi, ho⟩
    simp -dsimp -implicitDefEqProofs
    refine brW_of (fun h => ?_) (fun h => ?_) <;> simp only [decide_eq_true_eq, decide_eq_false_iff_not] at h
    · have hx : i < s.size := by omega
      have hw := wrapNat (i := i) (by omega)
      have hg := idx_at s i hx
      have hb := bAt_in s i
      have hn := nV_in s i ho
      have hp9 : (10 : Int) ^ i ≤ 10 ^ 9 := by
        have : i ≤ 9 := by omega
        exact_mod_cast Nat.pow_le_pow_right (by decide) this
      cases hd : isDig (bAt s i) with
      | false =>
        have hf : l01B s = false := by rw [hB]; exact nOk_false hd s.size hx
        unfold isDig at hd
        by_cases c1 : 48 ≤ bAt s i
        · have c2 : 57 < bAt s i := by
            rw [decide_eq_true c1] at hd
            have := of_decide_eq_false (by simpa using hd : decide (bAt s i ≤ 57) = false)
            omega
          have c1' : ¬ bAt s i < 48 := by omega
          simp -dsimp -implicitDefEqProofs [hg, c1', c2, hf, l01V]
        · have c1' : bAt s i < 48 := by omega
          simp -dsimp -implicitDefEqProofs [hg, c1', hf, l01V]
      | true =>
        have hd' := hd
        unfold isDig at hd
        simp only [Bool.and_eq_true, decide_eq_true_eq] at hd
        have c1 : ¬ bAt s i < 48 := by omega
        have c2 : ¬ 57 < bAt s i := by omega
        have w1 : IntKind.wrap .i64 (nV s i * 10) = nV s i * 10 := wrapI64 (by omega) (by omega)
        have w2 : IntKind.wrap .u8 (bAt s i - 48) = bAt s i - 48 := by simp [IntKind.wrap, IntKind.signed, IntKind.bits]; omega
        have w3 : IntKind.wrap .i64 (bAt s i - 48) = bAt s i - 48 := wrapI64 (by omega) (by omega)
        have w4 : IntKind.wrap .i64 (nV s i * 10 + (bAt s i - 48)) = nV s i * 10 + (bAt s i - 48) := wrapI64 (by omega) (by omega)
        simp -dsimp -implicitDefEqProofs [hg, c1, c2, w1, w2, w3, w4, hw]
        exact .mk (i + 1) ⟨by omega, by rw [nOk, ho, hd']; rfl⟩ (by omega) (Sub.keep (by simp) (by simp [hsub]) (by simp [nV, hw]))
    · have : i = s.size := by omega
      subst this
      have hf : l01B s = true := by rw [hB]; exact ho
      simp -dsimp -implicitDefEqProofs [hf, l01V]
end Go.Proofs.YtlglgcmpeabdnaaGreatDoorAi
end

section
/- Bits of numbers; copies of cells over and over. -/
namespace Go.Proofs.YtlglgcmpeabdnaaGreatDoorAi
open Go Go.RowKit
set_option linter.unusedVariables false
set_option linter.unusedSimpArgs false

theorem ofNat_toNat (w n : Nat) : (BitVec.ofInt w (n : Int)).toNat = n % 2 ^ w := by
  rw [BitVec.toNat_ofInt]
  omega
theorem wrapU {k : IntKind} (hk : k.signed = false) {n : Int} (h0 : 0 ≤ n) (h1 : n < 2 ^ k.bits) : k.wrap n = n := by
  simp only [IntKind.wrap, hk, Bool.false_and]
  rw [Int.emod_eq_of_lt h0 h1]
  simp
theorem wrap32 {n : Int} (h0 : 0 ≤ n) (h1 : n < 4294967296) : IntKind.u32.wrap n = n := wrapU rfl h0 h1
theorem wrapU64 {n : Int} (h0 : 0 ≤ n) (h1 : n < 18446744073709551616) : IntKind.u64.wrap n = n := wrapU rfl h0 h1
theorem or32 {a b : Nat} (ha : a < 4294967296) (hb : b < 4294967296) : IntKind.u32.wrap (BitVec.ofInt IntKind.u32.bits (a : Int) ||| BitVec.ofInt IntKind.u32.bits (b : Int)).toNat = ((a ||| b : Nat) : Int) := by
  rw [BitVec.toNat_or, ofNat_toNat, ofNat_toNat]
  simp only [IntKind.bits]
  rw [Nat.mod_eq_of_lt (by omega), Nat.mod_eq_of_lt (by omega)]
  exact wrap32 (by omega) (by have := Nat.or_lt_two_pow (n := 32) (x := a) (y := b) (by omega) (by omega); omega)
/-! ### cells over and over -/
theorem setCells_splice : ∀ (vs cs : List AV) (off : Nat), off + vs.length ≤ cs.length → setCells cs off vs = cs.take off ++ vs ++ cs.drop (off + vs.length)
  | [], cs, off, h => by simp [setCells]
  | v :: vs, cs, off, h => by
    simp only [List.length_cons] at h
    rw [setCells, setCells_splice vs _ (off + 1) (by simp; omega)]
    rw [List.take_add_one, List.getElem?_set_self (by omega), List.take_set_of_le (Nat.le_refl _), List.drop_set_of_lt (by omega)]
    simp only [Option.toList_some, List.append_assoc, List.singleton_append, List.length_cons]
    rw [show off + 1 + vs.length = off + (vs.length + 1) by omega]
end Go.Proofs.YtlglgcmpeabdnaaGreatDoorAi
end

section
/- Cells of lists of data. -/
namespace Go.Proofs.YtlglgcmpeabdnaaGreatDoorAi
open Go Go.RowKit
set_option linter.unusedVariables false
set_option linter.unusedSimpArgs false
set_option linter.unusedSectionVars false

/-- Data that take so many plain cells. -/
class Plain {α : Type} (f : α → AV) (e : outParam Nat) : Prop where
  len : ∀ x, (f x).cells.length = e
  pos : 0 < e
  low : ∀ x, ltL 0 (f x).cells = true
  flat : ∀ x, flatL (f x).cells = true
  loose : ∀ x, looseL (f x).cells = (f x).cells
  elem : ∀ x r, elemA e ((f x).cells ++ r) = f x
instance : Plain frA 2 := ⟨fun _ => rfl, by omega, fun _ => rfl, fun _ => rfl, fun _ => rfl, fun _ _ => rfl⟩
instance : Plain grA 2 := ⟨fun _ => rfl, by omega, fun _ => rfl, fun _ => rfl, fun _ => rfl, fun _ _ => rfl⟩
instance : Plain flA 3 := ⟨fun _ => rfl, by omega, fun _ => rfl, fun _ => rfl, fun _ => rfl, fun _ _ => rfl⟩
instance : Plain inA 1 := ⟨fun _ => rfl, by omega, fun _ => rfl, fun _ => rfl, fun _ => rfl, fun _ _ => rfl⟩

def flatA (xs : List AV) : List AV := xs.flatMap AV.cells
section
variable {α : Type} {f : α → AV} {e : Nat} [hP : Plain f e]
include hP
theorem flatA_mem (l : List α) : ∀ x ∈ mapA f l, x.cells.length = e := by
  intro x hx
  obtain ⟨a, _, rfl⟩ := List.mem_map.1 hx
  exact hP.len a
@[simp] theorem flatA_len (l : List α) : (flatA (mapA f l)).length = l.length * e := by
  unfold flatA
  rw [flatMap_len e _ (flatA_mem l), mapA_length]
theorem flatA_at (l : List α) (k : Nat) : (flatA (mapA f l))[k]? = (l[k / e]?).bind fun x => (f x).cells[k % e]? := by
  unfold flatA
  rw [flatMap_get e _ k (flatA_mem l) hP.pos, mapA_get]
  cases l[k / e]? <;> rfl
theorem flatA_get (l : List α) (i j : Nat) (hj : j < e) : (flatA (mapA f l))[i * e + j]? = (l[i]?).bind fun x => (f x).cells[j]? := by
  rw [flatA_at, Nat.mul_comm, Nat.mul_add_div hP.pos, Nat.div_eq_of_lt hj, Nat.add_zero, Nat.mul_add_mod, Nat.mod_eq_of_lt hj]
omit hP in
theorem flatA_append (l k : List α) : flatA (mapA f (l ++ k)) = flatA (mapA f l) ++ flatA (mapA f k) := by simp [flatA, mapA]
omit hP in
theorem flatA_one (x : α) : flatA (mapA f [x]) = (f x).cells := by simp [flatA, mapA]
omit hP in
@[simp] theorem flatA_nil : flatA (mapA f []) = [] := rfl
omit hP in
theorem flatA_cons (x : α) (l : List α) : flatA (mapA f (x :: l)) = (f x).cells ++ flatA (mapA f l) := by simp [flatA, mapA]
theorem flatA_take (l : List α) (k : Nat) : (flatA (mapA f l)).take (k * e) = flatA (mapA f (l.take k)) := by
  rcases Nat.le_total k l.length with h | h
  · conv => lhs; rw [← List.take_append_drop k l]
    rw [flatA_append, List.take_left' (by rw [flatA_len, List.length_take, Nat.min_eq_left h])]
  · rw [List.take_of_length_le (by rw [flatA_len]; exact Nat.mul_le_mul_right _ h), List.take_of_length_le h]
theorem flatA_drop (l : List α) (k : Nat) : (flatA (mapA f l)).drop (k * e) = flatA (mapA f (l.drop k)) := by
  rcases Nat.le_total k l.length with h | h
  · conv => lhs; rw [← List.take_append_drop k l]
    rw [flatA_append, List.drop_left' (by rw [flatA_len, List.length_take, Nat.min_eq_left h])]
  · rw [List.drop_of_length_le (by rw [flatA_len]; exact Nat.mul_le_mul_right _ h), List.drop_of_length_le h]; rfl
theorem flatA_lt (n : Nat) : ∀ l : List α, ltL n (flatA (mapA f l)) = true
  | [] => rfl
  | x :: l => by rw [flatA_cons, ltL_append, flatA_lt n l, ltL_mono (Nat.zero_le n) _ (hP.low x)]; rfl
theorem flatA_flat : ∀ l : List α, flatL (flatA (mapA f l)) = true
  | [] => rfl
  | x :: l => by
    rw [flatA_cons]
    have : ∀ a b : List AV, flatL a = true → flatL b = true → flatL (a ++ b) = true := by
      intro a b ha hb
      induction a with
      | nil => exact hb
      | cons y a ih =>
        simp only [List.cons_append, flatL, Bool.and_eq_true] at *
        exact ⟨ha.1, ih ha.2⟩
    exact this _ _ (hP.flat x) (flatA_flat l)
theorem flatA_loose : ∀ l : List α, looseL (flatA (mapA f l)) = flatA (mapA f l)
  | [] => rfl
  | x :: l => by
    rw [flatA_cons, looseL_map, List.map_append, ← looseL_map, ← looseL_map, hP.loose, flatA_loose l]
theorem flatA_ren (g : Nat → Nat) (l : List α) : renL g (flatA (mapA f l)) = flatA (mapA f l) := renL_low _ _ (flatA_lt 0 l)
theorem flatA_gath : ∀ (l : List α) (n : Nat), n = l.length → gath e n (flatA (mapA f l)) = mapA f l
  | [], n, h => by subst h; rfl
  | x :: l, n, h => by
    subst h
    rw [List.length_cons, gath, flatA_cons, hP.elem, List.drop_left' (hP.len x), flatA_gath l _ rfl]
    rfl
theorem flatA_set (l : List α) (i : Nat) (x : α) (hi : i < l.length) : setCells (flatA (mapA f l)) (i * e) (f x).cells = flatA (mapA f (l.set i x)) := by
  have h1 : (i + 1) * e ≤ l.length * e := Nat.mul_le_mul_right _ hi
  rw [Nat.add_mul, Nat.one_mul] at h1
  rw [setCells_splice _ _ _ (by rw [flatA_len, hP.len]; exact h1), hP.len, flatA_take, show i * e + e = (i + 1) * e by rw [Nat.add_mul, Nat.one_mul], flatA_drop, ← flatA_one x, ← flatA_append, ← flatA_append, List.set_eq_take_append_cons_drop, if_pos hi]
  simp
omit hP in
theorem flatA_rep (n : Nat) (x : α) : (List.replicate n (f x).cells).flatten = flatA (mapA f (List.replicate n x)) := by
  induction n with
  | zero => rfl
  | succ n ih => rw [List.replicate_succ, List.flatten_cons, ih, List.replicate_succ, flatA_cons]
end
@[simp] theorem flatA_nms {α : Type} {f : α → AV} {e : Nat} [Plain f e] (l : List α) : nmsL (flatA (mapA f l)) = [] := nmsL_low _ (flatA_lt 0 l)
attribute [simp] flatA_lt flatA_flat flatA_loose flatA_ren
@[simp] theorem all_plain {α : Type} {f : α → AV} {e : Nat} [hP : Plain f e] (l : List α) : (mapA f l).all (fun x => x.cells.length == e) = true := by
  rw [List.all_eq_true]
  intro x hx
  exact beq_iff_eq.2 (flatA_mem l x hx)
@[simp] theorem fm_plain {α : Type} {f : α → AV} {e : Nat} [hP : Plain f e] (l : List α) : (mapA f l).flatMap AV.cells = flatA (mapA f l) := rfl
@[simp 2000] theorem sliceCells_plain {α : Type} {f : α → AV} {e : Nat} [hP : Plain f e] (A : AHeap) (l : List α) (t : Bool) : sliceCells A e (.sl (mapA f l) t) = some (flatA (mapA f l)) := by
  show (if ((mapA f l).all fun x => x.cells.length == e) = true then some (List.flatMap AV.cells (mapA f l)) else none) = _
  rw [if_pos (all_plain l)]
  rfl
@[simp 2000] theorem sliceA_plain {α : Type} {f : α → AV} {e : Nat} [hP : Plain f e] (l : List α) (t : Bool) (lo hi : Nat) (mx : Option Nat) : sliceA e (.sl (mapA f l) t) lo hi mx = if lo ≤ hi ∧ hi ≤ l.length ∧ maxOk hi l.length mx = true then some (.sl (mapA f ((l.take hi).drop lo)) (maxTight hi l.length t mx)) else none := by
  have h1 := all_plain (f := f) (e := e) l
  unfold sliceA
  dsimp only
  rw [mapA_length]
  by_cases c : lo ≤ hi ∧ hi ≤ l.length ∧ maxOk hi l.length mx = true
  · rw [if_pos ⟨c.1, c.2.1, c.2.2, h1⟩, if_pos c]
    simp [mapA, List.map_drop, List.map_take]
  · rw [if_neg (fun h => c ⟨h.1, h.2.1, h.2.2.1⟩), if_neg c]
@[simp] theorem gath_fr (l : List Fr) (n : Nat) (h : n = l.length) : gath 2 n (flatA (mapA frA l)) = mapA frA l := flatA_gath l n h
@[simp] theorem gath_gr (l : List Gr) (n : Nat) (h : n = l.length) : gath 2 n (flatA (mapA grA l)) = mapA grA l := flatA_gath l n h
@[simp] theorem gath_fl (l : List Fl) (n : Nat) (h : n = l.length) : gath 3 n (flatA (mapA flA l)) = mapA flA l := flatA_gath l n h
@[simp] theorem gath_in (l : List Int) (n : Nat) (h : n = l.length) : gath 1 n (flatA (mapA inA l)) = mapA inA l := flatA_gath l n h
@[simp] theorem news_fr (n : Nat) (p q : Int) : (List.replicate n [.int .i64 p, .int .i64 q]).flatten = flatA (mapA frA (List.replicate n ⟨p, q⟩)) := flatA_rep (f := frA) n ⟨p, q⟩
@[simp] theorem news_gr (n : Nat) (p q : Int) : (List.replicate n [.int .i64 p, .int .u32 q]).flatten = flatA (mapA grA (List.replicate n ⟨p, q⟩)) := flatA_rep (f := grA) n ⟨p, q⟩
@[simp] theorem news_fl (n : Nat) (m p q : Int) : (List.replicate n [.int .i64 m, .int .i64 p, .int .u32 q]).flatten = flatA (mapA flA (List.replicate n ⟨m, p, q⟩)) := flatA_rep (f := flA) n ⟨m, p, q⟩
@[simp] theorem news_in (n : Nat) (p : Int) : (List.replicate n [.int .i64 p]).flatten = flatA (mapA inA (List.replicate n p)) := flatA_rep (f := inA) n p
theorem set_fr (l : List Fr) (i : Nat) (p q : Int) (h : i < l.length) : ((flatA (mapA frA l)).set (i * 2) (.int .i64 p)).set (i * 2 + 1) (.int .i64 q) = flatA (mapA frA (l.set i ⟨p, q⟩)) := flatA_set (f := frA) l i ⟨p, q⟩ h
theorem get_fr0 (l : List Fr) (i : Nat) (h : i < l.length) : (flatA (mapA frA l))[i * 2]? = some (.int .i64 l[i].p) := by
  have := flatA_get (f := frA) l i 0 (by omega)
  rw [Nat.add_zero] at this
  rw [this]; simp [h]
theorem get_fr1 (l : List Fr) (i : Nat) (h : i < l.length) : (flatA (mapA frA l))[i * 2 + 1]? = some (.int .i64 l[i].q) := by
  rw [flatA_get (f := frA) l i 1 (by omega)]; simp [h]
/-! ### marks -/
def marksF : Nat → Int → List Fr
  | 0, _ => []
  | n + 1, k => ⟨k, k + 1⟩ :: marksF n (k + 2)
@[simp] theorem marksF_len : ∀ (n : Nat) (k : Int), (marksF n k).length = n
  | 0, _ => rfl
  | n + 1, k => by simp [marksF, marksF_len n]
theorem marksF_get : ∀ (n : Nat) (k : Int) (i : Nat) (h : i < (marksF n k).length), (marksF n k)[i] = ⟨k + 2 * i, k + 2 * i + 1⟩
  | 0, _, i, h => by simp [marksF] at h
  | n + 1, k, 0, h => by simp [marksF]
  | n + 1, k, i + 1, h => by
    simp only [marksF, List.getElem_cons_succ]
    rw [marksF_get n (k + 2) i]
    simp only [Fr.mk.injEq]
    omega
@[simp] theorem marksF_inj (n n' : Nat) (k k' : Int) : marksF n k = marksF n' k' ↔ n = n' ∧ (n = 0 ∨ k = k') := by
  constructor
  · intro h
    have hn : n = n' := by have := congrArg List.length h; simpa using this
    subst hn
    refine ⟨rfl, ?_⟩
    cases n with
    | zero => exact .inl rfl
    | succ n =>
      simp only [marksF, List.cons.injEq, Fr.mk.injEq] at h
      exact .inr h.1.1
  · rintro ⟨rfl, rfl | rfl⟩ <;> rfl
theorem marks_step (l : List Fr) (k : Int) (i : Nat) (h : i < l.length) : ((marksF l.length k).take i ++ l.drop i).set i ⟨k + 2 * i, k + 2 * i + 1⟩ = (marksF l.length k).take (i + 1) ++ l.drop (i + 1) := by
  rw [List.set_append_right _ _ (by simp; omega)]
  have e : i - ((marksF l.length k).take i).length = 0 := by simp; omega
  rw [e, List.drop_eq_getElem_cons h, List.set_cons_zero, take_snoc _ i (by simpa using h), marksF_get, List.append_assoc]
  rfl
theorem marks_end (l : List Fr) (k : Int) : (marksF l.length k).take l.length ++ l.drop l.length = marksF l.length k := by
  simp [List.take_of_length_le]

end Go.Proofs.YtlglgcmpeabdnaaGreatDoorAi
end

section
/- MADE BY PROGRAM (wip/tools/gen.py): the abstract code of functions. -/
namespace Go.Proofs.YtlglgcmpeabdnaaGreatDoorAi
open Go AC AOp Opd
set_option linter.unusedVariables false
set_option maxRecDepth 100000
def c_impl_bit : AC := seq (reg [⟨(some 4), mv (c (.int .u32 0)), none⟩]) (seq (seq (reg [⟨(some 5), mv (t 0), none⟩, ⟨(some 6), mv (t 1), none⟩, ⟨(some 7), bin .gtr (t 5) (t 6), none⟩]) (cond (t 7) (reg [⟨(some 8), mv (t 1), none⟩, ⟨(some 9), mv (t 0), none⟩, ⟨(some 0), mv (t 8), none⟩, ⟨(some 1), mv (t 9), none⟩]) (skip))) (seq (reg [⟨(some 10), mv (t 1), none⟩, ⟨(some 11), callq (c (.fn 130 [])) [t 10], none⟩, ⟨(some 12), mv (t 0), none⟩, ⟨(some 13), bin .add (t 11) (t 12), none⟩, ⟨(some 14), bin .shl (c (.int .u32 1)) (t 13), none⟩, ⟨(some 4), mv (t 14), none⟩]) (ret)))
def r_impl_bit : List ARes := [.tmp 4]
theorem k_impl_bit : acLin Go.Proofs.Tryz.prog 83 2 (inQ [130] []) [] = some (c_impl_bit, r_impl_bit) := by kernel_rfl
def c_laws_markFractionS : AC := seq (reg [⟨(some 4), mv (c (.int .i64 0)), none⟩]) (seq (seq (reg [⟨(some 5), mv (c (.int .i64 0)), none⟩]) (block 0 (loop (seq (seq (reg [⟨(some 6), mv (t 5), none⟩, ⟨(some 7), mv (t 0), none⟩, ⟨(some 8), len (t 7), none⟩, ⟨(some 9), bin .lss (t 6) (t 8), none⟩]) (cond (t 9) (skip) (exit 0))) (seq (block 1 (seq (reg [⟨(some 12), mv (t 0), none⟩, ⟨(some 13), mv (t 5), none⟩, ⟨(some 14), mv (t 1), none⟩, ⟨(some 15), iad 2 (t 12) (t 13), none⟩, ⟨(some 16), fad (t 15) 0, none⟩, ⟨none, st (t 16) 1 (t 14), none⟩]) (seq (reg [⟨(some 17), mv (t 1), none⟩, ⟨(some 18), bin .add (t 17) (c (.int .i64 1)), none⟩, ⟨(some 1), mv (t 18), none⟩]) (seq (reg [⟨(some 19), mv (t 0), none⟩, ⟨(some 20), mv (t 5), none⟩, ⟨(some 21), mv (t 1), none⟩, ⟨(some 22), iad 2 (t 19) (t 20), none⟩, ⟨(some 23), fad (t 22) 1, none⟩, ⟨none, st (t 23) 1 (t 21), none⟩]) (reg [⟨(some 24), mv (t 1), none⟩, ⟨(some 25), bin .add (t 24) (c (.int .i64 1)), none⟩, ⟨(some 1), mv (t 25), none⟩]))))) (reg [⟨(some 10), mv (t 5), none⟩, ⟨(some 11), bin .add (t 10) (c (.int .i64 1)), none⟩, ⟨(some 5), mv (t 11), none⟩])))))) (seq (reg [⟨(some 26), mv (t 1), none⟩, ⟨(some 4), mv (t 26), none⟩]) (ret)))
def r_laws_markFractionS : List ARes := [.tmp 4]
theorem k_laws_markFractionS : acLin Go.Proofs.Tryz.prog 42 2 (inQ [] []) [] = some (c_laws_markFractionS, r_laws_markFractionS) := by kernel_rfl
def c_laws_heldFractionS : AC := seq (reg [⟨(some 4), mv (c (.int .i64 0)), none⟩]) (seq (seq (reg [⟨(some 5), mv (c (.int .i64 0)), none⟩]) (block 0 (loop (seq (seq (reg [⟨(some 6), mv (t 5), none⟩, ⟨(some 7), mv (t 0), none⟩, ⟨(some 8), len (t 7), none⟩, ⟨(some 9), bin .lss (t 6) (t 8), none⟩]) (cond (t 9) (skip) (exit 0))) (seq (block 1 (seq (seq (reg [⟨(some 12), mv (t 0), none⟩, ⟨(some 13), mv (t 5), none⟩, ⟨(some 14), iad 2 (t 12) (t 13), none⟩, ⟨(some 15), fad (t 14) 0, none⟩, ⟨(some 16), ld (t 15) 1 false, none⟩, ⟨(some 17), mv (t 1), none⟩, ⟨(some 18), bin .neq (t 16) (t 17), none⟩]) (cond (t 18) (seq (reg [⟨(some 4), mv (c (.int .i64 (-1))), none⟩]) (ret)) (skip))) (seq (reg [⟨(some 19), mv (t 1), none⟩, ⟨(some 20), bin .add (t 19) (c (.int .i64 1)), none⟩, ⟨(some 1), mv (t 20), none⟩]) (seq (seq (reg [⟨(some 21), mv (t 0), none⟩, ⟨(some 22), mv (t 5), none⟩, ⟨(some 23), iad 2 (t 21) (t 22), none⟩, ⟨(some 24), fad (t 23) 1, none⟩, ⟨(some 25), ld (t 24) 1 false, none⟩, ⟨(some 26), mv (t 1), none⟩, ⟨(some 27), bin .neq (t 25) (t 26), none⟩]) (cond (t 27) (seq (reg [⟨(some 4), mv (c (.int .i64 (-1))), none⟩]) (ret)) (skip))) (reg [⟨(some 28), mv (t 1), none⟩, ⟨(some 29), bin .add (t 28) (c (.int .i64 1)), none⟩, ⟨(some 1), mv (t 29), none⟩]))))) (reg [⟨(some 10), mv (t 5), none⟩, ⟨(some 11), bin .add (t 10) (c (.int .i64 1)), none⟩, ⟨(some 5), mv (t 11), none⟩])))))) (seq (reg [⟨(some 30), mv (t 1), none⟩, ⟨(some 4), mv (t 30), none⟩]) (ret)))
def r_laws_heldFractionS : List ARes := [.tmp 4]
theorem k_laws_heldFractionS : acLin Go.Proofs.Tryz.prog 43 2 (inQ [] []) [] = some (c_laws_heldFractionS, r_laws_heldFractionS) := by kernel_rfl
def c_laws_markPattern : AC := seq (reg [⟨(some 2), box 4 (t 0), none⟩, ⟨(some 4), mv (c (.int .i64 0)), none⟩]) (seq (reg [⟨(some 5), fad (t 2) 3, none⟩, ⟨(some 6), ld (t 5) 1 false, none⟩, ⟨(some 7), mv (t 1), none⟩, ⟨(some 8), calle (c (.fn 42 [])) [t 6, t 7] [], none⟩, ⟨(some 1), mv (t 8), none⟩]) (seq (reg [⟨(some 9), mv (t 1), none⟩, ⟨(some 4), mv (t 9), none⟩]) (ret)))
def r_laws_markPattern : List ARes := [.tmp 4]
theorem k_laws_markPattern : acLin Go.Proofs.Tryz.prog 10 2 (inQ [] [42]) [] = some (c_laws_markPattern, r_laws_markPattern) := by kernel_rfl
def c_laws_heldPattern : AC := seq (reg [⟨(some 2), box 4 (t 0), none⟩, ⟨(some 4), mv (c (.int .i64 0)), none⟩]) (seq (reg [⟨(some 5), fad (t 2) 3, none⟩, ⟨(some 6), ld (t 5) 1 false, none⟩, ⟨(some 7), mv (t 1), none⟩, ⟨(some 8), callq (c (.fn 43 [])) [t 6, t 7], none⟩, ⟨(some 1), mv (t 8), none⟩]) (seq (seq (reg [⟨(some 9), mv (t 1), none⟩, ⟨(some 10), bin .lss (t 9) (c (.int .i64 0)), none⟩]) (cond (t 10) (seq (reg [⟨(some 4), mv (c (.int .i64 (-1))), none⟩]) (ret)) (skip))) (seq (reg [⟨(some 11), mv (t 1), none⟩, ⟨(some 4), mv (t 11), none⟩]) (ret))))
def r_laws_heldPattern : List ARes := [.tmp 4]
theorem k_laws_heldPattern : acLin Go.Proofs.Tryz.prog 11 2 (inQ [43] []) [] = some (c_laws_heldPattern, r_laws_heldPattern) := by kernel_rfl
end Go.Proofs.YtlglgcmpeabdnaaGreatDoorAi
end

section
/- Contracts: products of words; cells over and over; patterns of equal parts. -/
namespace Go.Proofs.YtlglgcmpeabdnaaGreatDoorAi
open Go Go.RowKit
set_option linter.unusedVariables false
set_option linter.unusedSimpArgs false
set_option maxRecDepth 20000

def evenL (n : Int) : List Fr := List.replicate n.toNat ⟨1, n⟩
end Go.Proofs.YtlglgcmpeabdnaaGreatDoorAi
end

section
/- Contracts: patterns of equal weights. -/
namespace Go.Proofs.YtlglgcmpeabdnaaGreatDoorAi
open Go Go.RowKit
set_option linter.unusedVariables false
set_option linter.unusedSimpArgs false
set_option maxRecDepth 20000

end Go.Proofs.YtlglgcmpeabdnaaGreatDoorAi
end

section
/- Contracts: bits of edges; graphs that are made. -/
namespace Go.Proofs.YtlglgcmpeabdnaaGreatDoorAi
open Go Go.RowKit
set_option linter.unusedVariables false
set_option linter.unusedSimpArgs false
set_option maxRecDepth 20000
variable {P : Program}

def bitI (i j : Nat) : Nat := if i < j then j * (j - 1) / 2 + i else i * (i - 1) / 2 + j
noncomputable def sp_bit : List AV → Option (AV) := pf (ι := (Int) × (Int)) (α := AV) (fun ⟨i, j⟩ => (0 ≤ i ∧ i ≤ 5) ∧ (0 ≤ j ∧ j ≤ 5)) (fun ⟨i, j⟩ => [.int .i64 i, .int .i64 j]) (fun ⟨i, j⟩ => .int .u32 (2 ^ bitI i.toNat j.toNat))
theorem sp_bit_eq (i j : Int) (h : (0 ≤ i ∧ i ≤ 5) ∧ (0 ≤ j ∧ j ≤ 5)) : sp_bit [.int .i64 i, .int .i64 j] = some (.int .u32 (2 ^ bitI i.toNat j.toNat)) := by
  unfold sp_bit
  exact pf_eq (ι := (Int) × (Int)) (α := AV) (i, j) h (by rintro ⟨i', j'⟩ _ e; simp_all [Int.natCast_inj])
theorem q_impl_bit : QP PP 83 sp_bit := by
  refine QP_pf (fun i h => ?_) fun i h => ?_
  · obtain ⟨i, j⟩ := i; exact ⟨by first | rfl | simp, by first | rfl | simp⟩
  obtain ⟨i, j⟩ := i
  replace h : (0 ≤ i ∧ i ≤ 5) ∧ (0 ≤ j ∧ j ≤ 5) := h
  refine P_code (Quiet.q1 q_impl_pairs Quiet.nil) hmix k_impl_bit rfl ?_ ?_
  · first | rfl | simp
  show wpc 0 PP _ c_impl_bit (initSt [.int .i64 i, .int .i64 j] .nil) (endP r_impl_bit (.int .u32 (2 ^ bitI i.toNat j.toNat)))
  obtain ⟨⟨i0, i1⟩, j0, j1⟩ := h
  have hj : j = 0 ∨ j = 1 ∨ j = 2 ∨ j = 3 ∨ j = 4 ∨ j = 5 := by omega
  have hi : i = 0 ∨ i = 1 ∨ i = 2 ∨ i = 3 ∨ i = 4 ∨ i = 5 := by omega
  rcases hi with rfl | rfl | rfl | rfl | rfl | rfl <;> rcases hj with rfl | rfl | rfl | rfl | rfl | rfl <;> simp -dsimp -implicitDefEqProofs [c_impl_bit, r_impl_bit, sp_pairs_eq, pI0, pI1, pI2, pI3, pI4, pI5, bitI, IntKind.wrap, IntKind.bits, IntKind.signed]
/-! ### a call that sees some objects, of which nothing is known here -/
def ClosedH (os : List (Option (List AV))) : Prop := ∀ b cs, hget os b = some cs → ltL os.length cs = true
theorem hset_pre (os r : List (Option (List AV))) (i : Nat) (x : Option (List AV)) : hset (os ++ r) (os.length + i) x = os ++ hset r i x := by
  induction os with
  | nil => simp
  | cons o os ih =>
    simp only [List.cons_append, List.length_cons, hset]
    rw [if_neg (by omega), show os.length + 1 + i - 1 = os.length + i by omega, ih]
theorem hset_pre0 (os r : List (Option (List AV))) (x : Option (List AV)) : hset (os ++ r) os.length x = os ++ hset r 0 x := hset_pre os r 0 x
theorem hsub_of {f : Nat → Nat} {n : Nat} {A : AHeap} : ∀ {l : List (Option (List AV))} {i : Nat}, (∀ b, b < l.length → f (i + b) < A.n) → (∀ b cs, hget l b = some cs → ltL n cs = true ∧ A (f (i + b)) = some (renL f cs)) → hsub f n A i l
  | [], i, _, _ => trivial
  | none :: r, i, h1, h2 => ⟨by simpa using h1 0 (by simp), hsub_of (fun b hb => by have := h1 (b + 1) (by simp; omega); rwa [show i + (b + 1) = i + 1 + b by omega] at this) (fun b cs hb => by have := h2 (b + 1) cs (by simpa [hget] using hb); rwa [show i + (b + 1) = i + 1 + b by omega] at this)⟩
  | some c :: r, i, h1, h2 => ⟨by simpa using h2 0 c (by simp [hget]), hsub_of (fun b hb => by have := h1 (b + 1) (by simp; omega); rwa [show i + (b + 1) = i + 1 + b by omega] at this) (fun b cs hb => by have := h2 (b + 1) cs (by simpa [hget] using hb); rwa [show i + (b + 1) = i + 1 + b by omega] at this)⟩
theorem hsub_pre {os r : List (Option (List AV))} {m : Nat} (ho : ClosedH os) (hm : os.length ≤ m) : hsub (fun b => b) m ⟨os ++ r⟩ 0 os := by
  refine hsub_of (fun b hb => ?_) fun b cs hb => ?_
  · simp [AHeap.n]; omega
  · have hlt := hget_lt hb
    rw [Nat.zero_add]
    refine ⟨ltL_mono hm _ (ho b cs hb), ?_⟩
    show hget (os ++ r) b = _
    rw [hget_append, if_pos hlt, renL_id, hb]
theorem hsub_append {f : Nat → Nat} {n : Nat} {A : AHeap} : ∀ (l k : List (Option (List AV))) (i : Nat), hsub f n A i l → hsub f n A (i + l.length) k → hsub f n A i (l ++ k)
  | [], k, i, _, h => h
  | none :: r, k, i, h1, h => ⟨h1.1, hsub_append r k (i + 1) h1.2 (by rw [List.length_cons, show i + (r.length + 1) = i + 1 + r.length by omega] at h; exact h)⟩
  | some c :: r, k, i, h1, h => ⟨h1.1, hsub_append r k (i + 1) h1.2 (by rw [List.length_cons, show i + (r.length + 1) = i + 1 + r.length by omega] at h; exact h)⟩
theorem Sub.pre {os r r' : List (Option (List AV))} {t : Nat → AV} {l : List (Nat × AV)} (ho : ClosedH os) (hs : hsub (fun b => b) (os.length + r'.length) ⟨os ++ r⟩ os.length r') (ht : ∀ p ∈ l, p.2.lt (os.length + r'.length) = true ∧ t p.1 = p.2) : Sub os.length ⟨t, ⟨os ++ r⟩⟩ ⟨tl l, ⟨os ++ r'⟩⟩ := by
  have e : (os ++ r').length = os.length + r'.length := by simp
  refine Sub.keep (by simp) ?_ (by rw [e]; exact ht)
  rw [e]
  exact hsub_append _ _ _ (hsub_pre ho (by omega)) (by rw [Nat.zero_add]; exact hs)
theorem View.pre {os r : List (Option (List AV))} (ho : ClosedH os) : View (fun b => b) ⟨os ++ r⟩ ⟨os⟩ := by
  refine ⟨fun b hb => ?_, fun b cs hb => ?_, fun b b' cs cs' _ _ e => e⟩
  · have hb : b < os.length := hb
    simp [AHeap.n]; omega
  · have hlt := hget_lt hb
    refine ⟨ho b cs hb, ?_⟩
    show hget (os ++ r) b = _
    rw [hget_append, if_pos hlt, renL_id]
    exact hb
mutual
theorem ren_same {n : Nat} {g : Nat → Nat} (hg : ∀ b, b < n → g b = b) : ∀ x : AV, x.lt n = true → x.ren g = x
  | .ptr b o, h => by rw [AV.ren, hg b (of_decide_eq_true h)]
  | .ref b e o m t, h => by rw [AV.ren, hg b (of_decide_eq_true h)]
  | .ep x i o, h => by rw [AV.ren, ren_same hg x h]
  | .fn f cs, h => by rw [AV.ren, renL_same hg cs h]
  | .agg cs, h => by rw [AV.ren, renL_same hg cs h]
  | .tup cs, h => by rw [AV.ren, renL_same hg cs h]
  | .bool _, _ | .int _ _, _ | .str _, _ | .sl _ _, _ | .nilp, _ | .nilf, _ | .nili, _ | .iface, _ | .mv _ _, _ | .any, _ => rfl
theorem renL_same {n : Nat} {g : Nat → Nat} (hg : ∀ b, b < n → g b = b) : ∀ cs : List AV, ltL n cs = true → renL g cs = cs
  | [], _ => rfl
  | x :: r, h => by
    simp only [ltL, Bool.and_eq_true] at h
    rw [renL, ren_same hg x h.1, renL_same hg r h.2]
end
theorem upd_pre (g : Nat → Nat) (os r : List (Option (List AV))) (ho : ClosedH os) (hg : ∀ b, b < os.length → g b = b) : upd (fun b => b) g 0 os os (os ++ r) = os ++ r := by
  have key : ∀ (a b : List (Option (List AV))), (∀ i cs, hget b i = some cs → renL g cs = cs) → upd (fun b => b) g a.length b b (a ++ b ++ r) = a ++ b ++ r := by
    intro a b
    induction b generalizing a with
    | nil => intro _; simp [upd]
    | cons o b ih =>
      intro h
      rw [upd]
      have h0 : (if o.isSome = true then hset (a ++ o :: b ++ r) a.length (o.map (renL g)) else a ++ o :: b ++ r) = (a ++ [o]) ++ b ++ r := by
        cases o with
        | none => simp
        | some c =>
          simp only [Option.isSome_some, if_true, Option.map_some, List.append_assoc, List.cons_append]
          rw [hset_pre0, hset, if_pos rfl, h 0 c (by simp [hget])]
          simp
      rw [h0]
      have := ih (a ++ [o]) (fun i cs hi => h (i + 1) cs (by simpa [hget] using hi))
      simp only [List.length_append, List.length_cons, List.length_nil] at this
      rw [this]
      simp
  have := key [] os (fun i cs hi => renL_same hg cs (ho i cs hi))
  simpa using this
/-- A call that sees some objects and leaves them as they are. -/
theorem T.sees {f : FuncId} {args : List AV} {os : List (Option (List AV))} {v : AV} (h : T P f args ⟨os⟩ fun r A' => r = v ∧ A' = ⟨os⟩) (ho : ClosedH os) (ha : ltL os.length args = true) (hv : v.lt 0 = true) (r : List (Option (List AV))) :
    T P f args ⟨os ++ r⟩ fun x A' => x = v ∧ A' = ⟨os ++ r⟩ := by
  have := h.embed (A := ⟨os ++ r⟩) (View.pre ho) ha
  rw [renL_id] at this
  refine this.mono ?_
  rintro x A1 ⟨r', A1', ⟨rfl, rfl⟩, rfl, rfl⟩
  refine ⟨ren_low _ _ hv, AHeap.ext' ?_⟩
  exact upd_pre _ os r ho (fun b hb => by simp [extN, AHeap.n, hb])
end Go.Proofs.YtlglgcmpeabdnaaGreatDoorAi
end

section
/- Contracts: graphs that are made. -/
namespace Go.Proofs.YtlglgcmpeabdnaaGreatDoorAi
open Go Go.RowKit
set_option linter.unusedVariables false
set_option linter.unusedSimpArgs false
set_option maxRecDepth 20000

def rowE (J : Nat → Nat → Bool) (j : Nat) (e : Nat) : Nat → Nat
  | 0 => e
  | i + 1 => if J i j = true then rowE J j e i ||| 2 ^ bitI i j else rowE J j e i
def madeE (J : Nat → Nat → Bool) : Nat → Nat
  | 0 => 0
  | j + 1 => rowE J j (madeE J j) j
theorem bitI_lt {i j : Nat} (h : i < j) (hj : j < 5) : bitI i j < 10 := by
  unfold bitI
  rw [if_pos h]
  have h5 : j = 1 ∨ j = 2 ∨ j = 3 ∨ j = 4 := by omega
  rcases h5 with rfl | rfl | rfl | rfl <;> omega
theorem ClosedH.nil : ClosedH [] := fun b cs h => by cases h
end Go.Proofs.YtlglgcmpeabdnaaGreatDoorAi
end

section
/- Edges of graphs as bits. -/
namespace Go.Proofs.YtlglgcmpeabdnaaGreatDoorAi
open Go Go.RowKit
set_option linter.unusedVariables false
set_option linter.unusedSimpArgs false

theorem bitI_c {i j : Nat} : bitI i j = bitI j i := by
  unfold bitI
  by_cases h : i < j
  · rw [if_pos h, if_neg (by omega)]
  · by_cases h2 : j < i
    · rw [if_neg h, if_pos h2]
    · have : i = j := by omega
      subst this; simp
end Go.Proofs.YtlglgcmpeabdnaaGreatDoorAi
end

section
/- Contracts of functions that take functions. -/
namespace Go.Proofs.YtlglgcmpeabdnaaGreatDoorAi
open Go Go.RowKit
set_option linter.unusedVariables false
set_option linter.unusedSimpArgs false
set_option maxRecDepth 20000
variable {P : Program}

end Go.Proofs.YtlglgcmpeabdnaaGreatDoorAi
end

section
/- Contracts: the graph with all edges. -/
namespace Go.Proofs.YtlglgcmpeabdnaaGreatDoorAi
open Go Go.RowKit
set_option linter.unusedVariables false
set_option linter.unusedSimpArgs false
set_option maxRecDepth 20000

def compR (n : Int) : AV := if 0 ≤ n ∧ n ≤ 5 then .tup [.agg [.int .i64 n, .int .u32 (2 ^ (n.toNat * (n.toNat - 1) / 2) - 1 : Nat)], .int .i64 0] else .tup [.agg [.int .i64 0, .int .u32 0], .int .i64 2]
@[simp] theorem compR_lt (n : Int) (k : Nat) : (compR n).lt k = true := by unfold compR; split <;> rfl
noncomputable def sp_CompleteGraph : List AV → Option (AV) := pf (ι := (Int)) (α := AV) (fun n => True) (fun n => [.int .i64 n]) (fun n => compR n)
theorem sp_CompleteGraph_eq (n : Int) : sp_CompleteGraph [.int .i64 n] = some (compR n) := by
  unfold sp_CompleteGraph
  exact pf_eq (ι := (Int)) (α := AV) n trivial (by rintro n' _ e; simp_all [Int.natCast_inj])
attribute [simp] sp_CompleteGraph_eq
end Go.Proofs.YtlglgcmpeabdnaaGreatDoorAi
end

section
/- MADE BY PROGRAM (wip/tools/gen.py): the abstract code of functions. -/
namespace Go.Proofs.YtlglgcmpeabdnaaGreatDoorAi
open Go AC AOp Opd
set_option linter.unusedVariables false
set_option maxRecDepth 100000
def c_impl_Graph_has : AC := seq (reg [⟨(some 3), box 2 (t 0), none⟩, ⟨(some 6), mv (c (.bool false)), none⟩]) (seq (reg [⟨(some 7), fad (t 3) 1, none⟩, ⟨(some 8), ld (t 7) 1 false, none⟩, ⟨(some 9), mv (t 1), none⟩, ⟨(some 10), mv (t 2), none⟩, ⟨(some 11), callq (c (.fn 83 [])) [t 9, t 10], none⟩, ⟨(some 12), bin .and (t 8) (t 11), none⟩, ⟨(some 13), bin .neq (t 12) (c (.int .u32 0)), none⟩, ⟨(some 6), mv (t 13), none⟩]) (ret))
def r_impl_Graph_has : List ARes := [.tmp 6]
theorem k_impl_Graph_has : acLin Go.Proofs.Tryz.prog 161 3 (inQ [83] []) [⟨false, none, [], [], none⟩, ⟨false, some [0, 1, 2, 3, 4, 5, 6, 7], [], [], none⟩] = some (c_impl_Graph_has, r_impl_Graph_has) := by kernel_rfl
end Go.Proofs.YtlglgcmpeabdnaaGreatDoorAi
end

section
/- Contracts: edges of graphs; opposite graphs; copies of lists. -/
namespace Go.Proofs.YtlglgcmpeabdnaaGreatDoorAi
open Go Go.RowKit
set_option linter.unusedVariables false
set_option linter.unusedSimpArgs false
set_option maxRecDepth 20000

theorem andBit0 {a c : Nat} (ha : a < 4294967296) (hc : c < 1024) : IntKind.u32.wrap ((a % 2 ^ IntKind.u32.bits &&& ((c : Int) % 2 ^ IntKind.u32.bits).toNat : Nat)) = ((a &&& c : Nat) : Int) := by
  have e1 : a % 2 ^ IntKind.u32.bits = a := Nat.mod_eq_of_lt (by simp only [IntKind.bits]; omega)
  have e2 : ((c : Int) % 2 ^ IntKind.u32.bits).toNat = c := by
    rw [Int.emod_eq_of_lt (by omega) (by simp only [IntKind.bits]; omega)]
    simp
  rw [e1, e2]
  have : a &&& c ≤ c := Nat.and_le_right
  exact wrap32 (by omega) (by omega)
theorem and_pow (a b : Nat) : a &&& 2 ^ b = if a.testBit b = true then 2 ^ b else 0 := by
  apply Nat.eq_of_testBit_eq
  intro k
  rw [Nat.testBit_and, Nat.testBit_two_pow]
  by_cases h : b = k
  · subst h
    cases a.testBit b <;> simp
  · cases a.testBit b <;> simp [h, Nat.testBit_two_pow]
theorem andBit {a b : Nat} (ha : a < 4294967296) (hb : b < 10) : IntKind.u32.wrap ((a % 2 ^ IntKind.u32.bits &&& ((2 : Int) ^ b % 2 ^ IntKind.u32.bits).toNat : Nat)) = if a.testBit b = true then ((2 ^ b : Nat) : Int) else 0 := by
  have e : (2 : Int) ^ b = ((2 ^ b : Nat) : Int) := by simp
  rw [e, andBit0 ha (Nat.pow_lt_pow_right (n := 10) (by omega) hb), and_pow]
  cases a.testBit b <;> simp
theorem bitI_10 {i j : Nat} (hi : i < 5) (hj : j < 5) (h : i ≠ j) : bitI i j < 10 := by
  rcases Nat.lt_or_gt_of_ne h with h | h
  · exact bitI_lt h hj
  · rw [bitI_c]; exact bitI_lt h hi

def hasB (e i j : Int) : Bool := e.toNat.testBit (bitI i.toNat j.toNat)
def vx (i j : Int) : Prop := (0 ≤ i ∧ i < 5) ∧ (0 ≤ j ∧ j < 5) ∧ i ≠ j
noncomputable def sp_has : List AV → Option (AV) := pf (ι := (Int) × (Int) × (Int) × (Int)) (α := AV) (fun ⟨n, e, i, j⟩ => (0 ≤ e ∧ e ≤ 4294967295) ∧ vx i j) (fun ⟨n, e, i, j⟩ => [.agg [.int .i64 n, .int .u32 e], .int .i64 i, .int .i64 j]) (fun ⟨n, e, i, j⟩ => .bool (hasB e i j))
theorem sp_has_eq (n e i j : Int) (h : (0 ≤ e ∧ e ≤ 4294967295) ∧ vx i j) : sp_has [.agg [.int .i64 n, .int .u32 e], .int .i64 i, .int .i64 j] = some (.bool (hasB e i j)) := by
  unfold sp_has
  exact pf_eq (ι := (Int) × (Int) × (Int) × (Int)) (α := AV) (n, e, i, j) h (by rintro ⟨n', e', i', j'⟩ _ e; simp_all [Int.natCast_inj])
theorem q_impl_Graph_has : QP PP 161 sp_has := by
  refine QP_pf (fun i h => ?_) fun i h => ?_
  · obtain ⟨n, e, i, j⟩ := i; exact ⟨by first | rfl | simp, by first | rfl | simp⟩
  obtain ⟨n, e, i, j⟩ := i
  replace h : (0 ≤ e ∧ e ≤ 4294967295) ∧ vx i j := h
  refine P_code (Quiet.q1 q_impl_bit Quiet.nil) hmix k_impl_Graph_has rfl ?_ ?_
  · first | rfl | simp
  show wpc 0 PP _ c_impl_Graph_has (initSt [.agg [.int .i64 n, .int .u32 e], .int .i64 i, .int .i64 j] .nil) (endP r_impl_Graph_has (.bool (hasB e i j)))
  obtain ⟨⟨e0, e1⟩, ⟨i0, i1⟩, ⟨j0, j1⟩, hij⟩ := h
  obtain ⟨m, rfl⟩ := Int.eq_ofNat_of_zero_le e0
  have hb := andBit (a := m) (b := bitI i.toNat j.toNat) (by omega) (bitI_10 (by omega) (by omega) (by omega))
  simp -dsimp -implicitDefEqProofs [c_impl_Graph_has, r_impl_Graph_has, sp_bit_eq i j (by omega), hb, hasB]
  have hp : (2 : Int) ^ bitI i.toNat j.toNat ≠ 0 := Int.pow_ne_zero (by omega)
  cases m.testBit (bitI i.toNat j.toNat) <;> simp [hp]

def notE (e : Int) (n : Int) : Nat := madeE (fun i j => !hasB e i j) n.toNat
end Go.Proofs.YtlglgcmpeabdnaaGreatDoorAi
end

section
/- MADE BY PROGRAM (wip/tools/gen.py): the abstract code of functions. -/
namespace Go.Proofs.YtlglgcmpeabdnaaGreatDoorAi
open Go AC AOp Opd
set_option linter.unusedVariables false
set_option maxRecDepth 100000
def c_impl_Pattern_loop : AC := seq (reg [⟨(some 4), mv (c (.bool false)), none⟩]) (seq (reg [⟨(some 5), mv (t 0), none⟩, ⟨(some 6), nilc (t 5), none⟩, ⟨(some 7), fad (t 6) 2, none⟩, ⟨(some 8), ld (t 7) 1 false, none⟩, ⟨(some 9), mv (t 1), none⟩, ⟨(some 10), bin .shr (t 8) (t 9), none⟩, ⟨(some 11), bin .and (t 10) (c (.int .u32 1)), none⟩, ⟨(some 12), bin .eql (t 11) (c (.int .u32 1)), none⟩, ⟨(some 4), mv (t 12), none⟩]) (ret))
def r_impl_Pattern_loop : List ARes := [.tmp 4]
theorem k_impl_Pattern_loop : acLin Go.Proofs.Tryz.prog 93 2 (inQ [] []) [] = some (c_impl_Pattern_loop, r_impl_Pattern_loop) := by kernel_rfl
def c_impl_sizeOk : AC := seq (reg [⟨(some 2), mv (c (.bool false)), none⟩]) (seq (reg [⟨(some 3), mv (t 0), none⟩, ⟨(some 4), callq (c (.fn 37 [])) [t 3, c (.int .i64 0), c (.int .i64 5)], none⟩, ⟨(some 2), mv (t 4), none⟩]) (ret))
def r_impl_sizeOk : List ARes := [.tmp 2]
theorem k_impl_sizeOk : acLin Go.Proofs.Tryz.prog 81 1 (inQ [37] []) [] = some (c_impl_sizeOk, r_impl_sizeOk) := by kernel_rfl
def c_spec_l01Bit : AC := seq (reg [⟨(some 4), mv (c (.int .u32 0)), none⟩]) (seq (seq (reg [⟨(some 5), mv (t 0), none⟩, ⟨(some 6), mv (t 1), none⟩, ⟨(some 7), bin .gtr (t 5) (t 6), none⟩]) (cond (t 7) (seq (reg [⟨(some 8), mv (t 1), none⟩, ⟨(some 9), mv (t 0), none⟩, ⟨(some 10), callq (c (.fn 67 [])) [t 8, t 9], none⟩, ⟨(some 4), mv (t 10), none⟩]) (ret)) (skip))) (seq (reg [⟨(some 11), mv (t 1), none⟩, ⟨(some 12), callq (c (.fn 119 [])) [t 11], none⟩, ⟨(some 13), mv (t 0), none⟩, ⟨(some 14), bin .add (t 12) (t 13), none⟩, ⟨(some 15), conv .u64 (t 14), none⟩, ⟨(some 16), bin .shl (c (.int .u32 1)) (t 15), none⟩, ⟨(some 4), mv (t 16), none⟩]) (ret)))
def r_spec_l01Bit : List ARes := [.tmp 4]
theorem k_spec_l01Bit : acLin Go.Proofs.Tryz.prog 67 2 (inQ [67, 119] []) [] = some (c_spec_l01Bit, r_spec_l01Bit) := by kernel_rfl
def c_spec_l01Joined : AC := seq (reg [⟨(some 3), box 2 (t 0), none⟩, ⟨(some 6), mv (c (.bool false)), none⟩]) (seq (reg [⟨(some 7), mv (t 1), none⟩, ⟨(some 8), mv (t 2), none⟩, ⟨(some 9), bin .neq (t 7) (t 8), none⟩, ⟨(some 10), mv (t 9), none⟩, ⟨(some 11), fad (t 3) 1, some (10, true)⟩, ⟨(some 12), ld (t 11) 1 false, some (10, true)⟩, ⟨(some 13), mv (t 1), some (10, true)⟩, ⟨(some 14), mv (t 2), some (10, true)⟩, ⟨(some 15), callq (c (.fn 67 [])) [t 13, t 14], some (10, true)⟩, ⟨(some 16), bin .and (t 12) (t 15), some (10, true)⟩, ⟨(some 17), bin .neq (t 16) (c (.int .u32 0)), some (10, true)⟩, ⟨(some 18), pick (t 10) (t 17) (c (.bool false)), none⟩, ⟨(some 6), mv (t 18), none⟩]) (ret))
def r_spec_l01Joined : List ARes := [.tmp 6]
theorem k_spec_l01Joined : acLin Go.Proofs.Tryz.prog 125 3 (inQ [67] []) [⟨false, none, [], [], none⟩, ⟨false, some [0, 1, 2, 3, 4, 5, 6, 7, 8, 9, 10, 11, 12], [], [], none⟩] = some (c_spec_l01Joined, r_spec_l01Joined) := by kernel_rfl
def c_spec_l07Joined : AC := seq (reg [⟨(some 6), mv (c (.bool false)), none⟩]) (seq (seq (reg [⟨(some 7), mv (t 1), none⟩, ⟨(some 8), mv (t 2), none⟩, ⟨(some 9), bin .eql (t 7) (t 8), none⟩]) (cond (t 9) (seq (reg [⟨(some 10), mv (t 0), none⟩, ⟨(some 11), nilc (t 10), none⟩, ⟨(some 12), fad (t 11) 2, none⟩, ⟨(some 13), ld (t 12) 1 false, none⟩, ⟨(some 14), mv (t 1), none⟩, ⟨(some 15), conv .u64 (t 14), none⟩, ⟨(some 16), bin .shr (t 13) (t 15), none⟩, ⟨(some 17), bin .and (t 16) (c (.int .u32 1)), none⟩, ⟨(some 18), bin .eql (t 17) (c (.int .u32 1)), none⟩, ⟨(some 6), mv (t 18), none⟩]) (ret)) (skip))) (seq (reg [⟨(some 19), mv (t 0), none⟩, ⟨(some 20), nilc (t 19), none⟩, ⟨(some 21), fad (t 20) 0, none⟩, ⟨(some 22), ld (t 21) 2 true, none⟩, ⟨(some 23), mv (t 1), none⟩, ⟨(some 24), mv (t 2), none⟩, ⟨(some 25), callq (c (.fn 125 [])) [t 22, t 23, t 24], none⟩, ⟨(some 6), mv (t 25), none⟩]) (ret)))
def r_spec_l07Joined : List ARes := [.tmp 6]
theorem k_spec_l07Joined : acLin Go.Proofs.Tryz.prog 77 3 (inQ [125] []) [] = some (c_spec_l07Joined, r_spec_l07Joined) := by kernel_rfl
end Go.Proofs.YtlglgcmpeabdnaaGreatDoorAi
end

section
/- Contracts: joined parts of patterns. (Under way.) -/
namespace Go.Proofs.YtlglgcmpeabdnaaGreatDoorAi
open Go Go.RowKit
set_option linter.unusedVariables false
set_option linter.unusedSimpArgs false
set_option maxRecDepth 20000

noncomputable def sp_sizeOk : List AV → Option (AV) := pf (ι := (Int)) (α := AV) (fun n => True) (fun n => [.int .i64 n]) (fun n => .bool (decide (0 ≤ n) && decide (n ≤ 5)))
theorem sp_sizeOk_eq (n : Int) : sp_sizeOk [.int .i64 n] = some (.bool (decide (0 ≤ n) && decide (n ≤ 5))) := by
  unfold sp_sizeOk
  exact pf_eq (ι := (Int)) (α := AV) n trivial (by rintro n' _ e; simp_all [Int.natCast_inj])
attribute [simp] sp_sizeOk_eq
theorem q_impl_sizeOk : QP PP 81 sp_sizeOk := by
  refine QP_pf (fun n h => ?_) fun n h => ?_
  · exact ⟨by first | rfl | simp, by first | rfl | simp⟩
  replace h : True := h
  refine P_code (Quiet.q1 q_impl_in Quiet.nil) hmix k_impl_sizeOk rfl ?_ ?_
  · first | rfl | simp
  show wpc 0 PP _ c_impl_sizeOk (initSt [.int .i64 n] .nil) (endP r_impl_sizeOk (.bool (decide (0 ≤ n) && decide (n ≤ 5))))
  simp -dsimp -implicitDefEqProofs [c_impl_sizeOk, r_impl_sizeOk]
theorem shrBit {l i : Nat} (hl : l < 4294967296) (hi : i < 5) : (IntKind.u32.wrap ((((l : Int).fdiv (2 ^ min i IntKind.u32.bits) % 2 ^ IntKind.u32.bits).toNat &&& 1 % 2 ^ IntKind.u32.bits : Nat)) == 1) = l.testBit i := by
  have e0 : min i IntKind.u32.bits = i := Nat.min_eq_left (by simp only [IntKind.bits]; omega)
  have e1 : (2 : Int) ^ i = ((2 ^ i : Nat) : Int) := by simp
  have hq : l / 2 ^ i ≤ l := Nat.div_le_self _ _
  have e2 : ((l : Int).fdiv (2 ^ i) % 2 ^ IntKind.u32.bits).toNat = l / 2 ^ i := by
    rw [e1]
    generalize 2 ^ i = c at hq
    rw [Int.fdiv_eq_ediv_of_nonneg _ (Int.natCast_nonneg c), ← Int.natCast_ediv]
    generalize l / c = d at hq
    rw [Int.emod_eq_of_lt (by omega) (by simp only [IntKind.bits]; omega)]
    simp
  rw [e0, e2, show (1 : Nat) % 2 ^ IntKind.u32.bits = 1 from rfl, Nat.and_one_is_mod, wrap32 (by omega) (by omega), Nat.testBit_eq_decide_div_mod_eq]
  generalize l / 2 ^ i = d
  rw [Bool.eq_iff_iff, beq_iff_eq, decide_eq_true_eq]
  omega
def loopB (l i : Int) : Bool := l.toNat.testBit i.toNat
noncomputable def sp_loopP : List (Option (List AV)) → List AV → Option (AV × List (Option (List AV))) := pv (pf (ι := (Int) × (Int) × (Int) × (List Fr) × (Int)) (α := AV × List (Option (List AV))) (fun ⟨n, e, l, ps, i⟩ => (0 ≤ l ∧ l ≤ 4294967295) ∧ (0 ≤ i ∧ i < 5)) (fun i => .agg (((fun ⟨n, e, l, ps, i⟩ => [some [.int .i64 n, .int .u32 e, .int .u32 l, .sl (frsA ps) false]] : (Int) × (Int) × (Int) × (List Fr) × (Int) → List (Option (List AV))) i).map enO) :: (fun ⟨n, e, l, ps, i⟩ => [.ptr 0 0, .int .i64 i] : (Int) × (Int) × (Int) × (List Fr) × (Int) → List AV) i) (fun ⟨n, e, l, ps, i⟩ => (.bool (loopB l i), [some [.int .i64 n, .int .u32 e, .int .u32 l, .sl (frsA ps) false]])))
theorem sp_loopP_eq (n e l : Int) (ps : List Fr) (i : Int) (h : (0 ≤ l ∧ l ≤ 4294967295) ∧ (0 ≤ i ∧ i < 5)) : sp_loopP [some [.int .i64 n, .int .u32 e, .int .u32 l, .sl (frsA ps) false]] [.ptr 0 0, .int .i64 i] = some (.bool (loopB l i), [some [.int .i64 n, .int .u32 e, .int .u32 l, .sl (frsA ps) false]]) := by
  unfold sp_loopP pv
  exact pf_eq (ι := (Int) × (Int) × (Int) × (List Fr) × (Int)) (α := AV × List (Option (List AV))) (n, e, l, ps, i) h (by rintro ⟨n', e', l', ps', i'⟩ _ e; simp_all [enO, Int.natCast_inj])
theorem v_impl_Pattern_loop : QV PP 93 sp_loopP := by
  refine QV_pf fun i h => ?_
  obtain ⟨n, e, l, ps, i⟩ := i
  replace h : (0 ≤ l ∧ l ≤ 4294967295) ∧ (0 ≤ i ∧ i < 5) := h
  refine H_code Quiet.nil hmix k_impl_Pattern_loop rfl (fun b => b) (by simp [AHeap.n]) (fun _ _ => rfl) (by rfl) (by first | rfl | simp) ?_
  show wpc _ PP _ c_impl_Pattern_loop (initSt [.ptr 0 0, .int .i64 i] ⟨[some [.int .i64 n, .int .u32 e, .int .u32 l, .sl (frsA ps) false]]⟩) (endH (fun b => b) r_impl_Pattern_loop (.bool (loopB l i)) [some [.int .i64 n, .int .u32 e, .int .u32 l, .sl (frsA ps) false]])
  obtain ⟨⟨l0, l1⟩, i0, i1⟩ := h
  obtain ⟨m, rfl⟩ := Int.eq_ofNat_of_zero_le l0
  have hn : ¬ i < 0 := by omega
  have hb := shrBit (l := m) (i := i.toNat) (by omega) (by omega)
  simp -dsimp -implicitDefEqProofs [c_impl_Pattern_loop, r_impl_Pattern_loop, hn, hb, loopB, hsub]
def joinB (e l i j : Int) : Bool := if i = j then loopB l i else hasB e i j
noncomputable def sp_joinP : List (Option (List AV)) → List AV → Option (AV × List (Option (List AV))) := pv (pf (ι := (Int) × (Int) × (Int) × (List Fr) × (Int) × (Int)) (α := AV × List (Option (List AV))) (fun ⟨n, e, l, ps, i, j⟩ => ((0 ≤ e ∧ e ≤ 4294967295) ∧ (0 ≤ l ∧ l ≤ 4294967295)) ∧ (0 ≤ i ∧ i < 5) ∧ (0 ≤ j ∧ j < 5)) (fun i => .agg (((fun ⟨n, e, l, ps, i, j⟩ => [some [.int .i64 n, .int .u32 e, .int .u32 l, .sl (frsA ps) false]] : (Int) × (Int) × (Int) × (List Fr) × (Int) × (Int) → List (Option (List AV))) i).map enO) :: (fun ⟨n, e, l, ps, i, j⟩ => [.ptr 0 0, .int .i64 i, .int .i64 j] : (Int) × (Int) × (Int) × (List Fr) × (Int) × (Int) → List AV) i) (fun ⟨n, e, l, ps, i, j⟩ => (.bool (joinB e l i j), [some [.int .i64 n, .int .u32 e, .int .u32 l, .sl (frsA ps) false]])))
theorem sp_joinP_eq (n e l : Int) (ps : List Fr) (i j : Int) (h : ((0 ≤ e ∧ e ≤ 4294967295) ∧ (0 ≤ l ∧ l ≤ 4294967295)) ∧ (0 ≤ i ∧ i < 5) ∧ (0 ≤ j ∧ j < 5)) : sp_joinP [some [.int .i64 n, .int .u32 e, .int .u32 l, .sl (frsA ps) false]] [.ptr 0 0, .int .i64 i, .int .i64 j] = some (.bool (joinB e l i j), [some [.int .i64 n, .int .u32 e, .int .u32 l, .sl (frsA ps) false]]) := by
  unfold sp_joinP pv
  exact pf_eq (ι := (Int) × (Int) × (Int) × (List Fr) × (Int) × (Int)) (α := AV × List (Option (List AV))) (n, e, l, ps, i, j) h (by rintro ⟨n', e', l', ps', i', j'⟩ _ e; simp_all [enO, Int.natCast_inj])
end Go.Proofs.YtlglgcmpeabdnaaGreatDoorAi
end

section
/- Contracts: joined vertices, as the reference has them. (Under way.) -/
namespace Go.Proofs.YtlglgcmpeabdnaaGreatDoorAi
open Go Go.RowKit
set_option linter.unusedVariables false
set_option linter.unusedSimpArgs false
set_option maxRecDepth 20000

/-- A contract that says nothing: for a call that does not come. -/
theorem QP.none (P : Program) (f : FuncId) : QP P f (fun _ => Option.none) := fun _ _ h => by cases h
noncomputable def sp_bitLe : List AV → Option (AV) := pf (ι := (Int) × (Int)) (α := AV) (fun ⟨i, j⟩ => (0 ≤ i ∧ i ≤ 5) ∧ (0 ≤ j ∧ j ≤ 5) ∧ i ≤ j) (fun ⟨i, j⟩ => [.int .i64 i, .int .i64 j]) (fun ⟨i, j⟩ => .int .u32 (2 ^ bitI i.toNat j.toNat))
theorem sp_bitLe_eq (i j : Int) (h : (0 ≤ i ∧ i ≤ 5) ∧ (0 ≤ j ∧ j ≤ 5) ∧ i ≤ j) : sp_bitLe [.int .i64 i, .int .i64 j] = some (.int .u32 (2 ^ bitI i.toNat j.toNat)) := by
  unfold sp_bitLe
  exact pf_eq (ι := (Int) × (Int)) (α := AV) (i, j) h (by rintro ⟨i', j'⟩ _ e; simp_all [Int.natCast_inj])
theorem q_bitLe : QP PP 67 sp_bitLe := by
  refine QP_pf (fun i h => ?_) fun i h => ?_
  · obtain ⟨i, j⟩ := i; exact ⟨rfl, rfl⟩
  obtain ⟨i, j⟩ := i
  replace h : (0 ≤ i ∧ i ≤ 5) ∧ (0 ≤ j ∧ j ≤ 5) ∧ i ≤ j := h
  refine P_code (Quiet.q1 (QP.none PP 67) (Quiet.q1 q_spec_l01Bits Quiet.nil)) hmix k_spec_l01Bit rfl rfl ?_
  obtain ⟨⟨i0, i1⟩, ⟨j0, j1⟩, hij⟩ := h
  have hj : j = 0 ∨ j = 1 ∨ j = 2 ∨ j = 3 ∨ j = 4 ∨ j = 5 := by omega
  have hi : i = 0 ∨ i = 1 ∨ i = 2 ∨ i = 3 ∨ i = 4 ∨ i = 5 := by omega
  rcases hi with rfl | rfl | rfl | rfl | rfl | rfl <;> rcases hj with rfl | rfl | rfl | rfl | rfl | rfl <;> first | (exfalso; omega) | simp -dsimp -implicitDefEqProofs [c_spec_l01Bit, r_spec_l01Bit, sp_pairs_eq, pI0, pI1, pI2, pI3, pI4, pI5, bitI, IntKind.wrap, IntKind.bits, IntKind.signed]
theorem q_spec_l01Bit : QP PP 67 sp_bit := by
  refine QP_pf (fun i h => ?_) fun i h => ?_
  · obtain ⟨i, j⟩ := i; exact ⟨rfl, rfl⟩
  obtain ⟨i, j⟩ := i
  replace h : (0 ≤ i ∧ i ≤ 5) ∧ (0 ≤ j ∧ j ≤ 5) := h
  by_cases hij : i ≤ j
  · exact (q_bitLe _ _ (sp_bitLe_eq i j ⟨h.1, h.2, hij⟩)).2
  · refine P_code (Quiet.q1 q_bitLe (Quiet.q1 q_spec_l01Bits Quiet.nil)) hmix k_spec_l01Bit rfl rfl ?_
    have hlt : j < i := by omega
    simp -dsimp -implicitDefEqProofs [c_spec_l01Bit, r_spec_l01Bit, hlt, sp_bitLe_eq j i ⟨h.2, h.1, by omega⟩, bitI_c (i := j.toNat) (j := i.toNat)]
def joinedB (e i j : Int) : Bool := decide (i ≠ j) && hasB e i j
noncomputable def sp_l01Joined : List AV → Option (AV) := pf (ι := (Int) × (Int) × (Int) × (Int)) (α := AV) (fun ⟨n, e, i, j⟩ => (0 ≤ e ∧ e ≤ 4294967295) ∧ (0 ≤ i ∧ i < 5) ∧ (0 ≤ j ∧ j < 5)) (fun ⟨n, e, i, j⟩ => [.agg [.int .i64 n, .int .u32 e], .int .i64 i, .int .i64 j]) (fun ⟨n, e, i, j⟩ => .bool (joinedB e i j))
theorem sp_l01Joined_eq (n e i j : Int) (h : (0 ≤ e ∧ e ≤ 4294967295) ∧ (0 ≤ i ∧ i < 5) ∧ (0 ≤ j ∧ j < 5)) : sp_l01Joined [.agg [.int .i64 n, .int .u32 e], .int .i64 i, .int .i64 j] = some (.bool (joinedB e i j)) := by
  unfold sp_l01Joined
  exact pf_eq (ι := (Int) × (Int) × (Int) × (Int)) (α := AV) (n, e, i, j) h (by rintro ⟨n', e', i', j'⟩ _ e; simp_all [Int.natCast_inj])
theorem q_spec_l01Joined : QP PP 125 sp_l01Joined := by
  refine QP_pf (fun i h => ?_) fun i h => ?_
  · obtain ⟨n, e, i, j⟩ := i; exact ⟨by first | rfl | simp, by first | rfl | simp⟩
  obtain ⟨n, e, i, j⟩ := i
  replace h : (0 ≤ e ∧ e ≤ 4294967295) ∧ (0 ≤ i ∧ i < 5) ∧ (0 ≤ j ∧ j < 5) := h
  refine P_code (Quiet.q1 q_spec_l01Bit Quiet.nil) hmix k_spec_l01Joined rfl ?_ ?_
  · first | rfl | simp
  show wpc 0 PP _ c_spec_l01Joined (initSt [.agg [.int .i64 n, .int .u32 e], .int .i64 i, .int .i64 j] .nil) (endP r_spec_l01Joined (.bool (joinedB e i j)))
  obtain ⟨⟨e0, e1⟩, ⟨i0, i1⟩, ⟨j0, j1⟩⟩ := h
  by_cases hij : i = j
  · subst hij
    simp -dsimp -implicitDefEqProofs [c_spec_l01Joined, r_spec_l01Joined, joinedB]
  · obtain ⟨m, rfl⟩ := Int.eq_ofNat_of_zero_le e0
    have hb := andBit (a := m) (b := bitI i.toNat j.toNat) (by omega) (bitI_10 (by omega) (by omega) (by omega))
    have hn : (i != j) = true := by simpa using hij
    simp -dsimp -implicitDefEqProofs [c_spec_l01Joined, r_spec_l01Joined, hn, sp_bit_eq i j (by omega), hb, joinedB, hasB, hij]
    have hp : (2 : Int) ^ bitI i.toNat j.toNat ≠ 0 := Int.pow_ne_zero (by omega)
    cases m.testBit (bitI i.toNat j.toNat) <;> simp [hp]
theorem v_spec_l07Joined : QV PP 77 sp_joinP := by
  refine QV_pf fun i h => ?_
  obtain ⟨n, e, l, ps, i, j⟩ := i
  replace h : ((0 ≤ e ∧ e ≤ 4294967295) ∧ (0 ≤ l ∧ l ≤ 4294967295)) ∧ (0 ≤ i ∧ i < 5) ∧ (0 ≤ j ∧ j < 5) := h
  refine H_code (Quiet.q1 q_spec_l01Joined Quiet.nil) hmix k_spec_l07Joined rfl (fun b => b) (by simp [AHeap.n]) (fun _ _ => rfl) (by rfl) (by first | rfl | simp) ?_
  show wpc _ PP _ c_spec_l07Joined (initSt [.ptr 0 0, .int .i64 i, .int .i64 j] ⟨[some [.int .i64 n, .int .u32 e, .int .u32 l, .sl (frsA ps) false]]⟩) (endH (fun b => b) r_spec_l07Joined (.bool (joinB e l i j)) [some [.int .i64 n, .int .u32 e, .int .u32 l, .sl (frsA ps) false]])
  by_cases hij : i = j
  · subst hij
    obtain ⟨⟨he, l0, l1⟩, ⟨i0, i1⟩, _⟩ := h
    obtain ⟨m, rfl⟩ := Int.eq_ofNat_of_zero_le l0
    have hu : IntKind.u64.wrap i = i := wrapU64 (by omega) (by omega)
    have hn : ¬ i < 0 := by omega
    have hb := shrBit (l := m) (i := i.toNat) (by omega) (by omega)
    simp -dsimp -implicitDefEqProofs [c_spec_l07Joined, r_spec_l07Joined, hu, hn, hb, joinB, loopB, hsub]
  · have hb : (i == j) = false := by simpa using hij
    simp -dsimp -implicitDefEqProofs [c_spec_l07Joined, r_spec_l07Joined, hb, hij, sp_l01Joined_eq n e i j ⟨h.1.1, h.2.1, h.2.2⟩, joinedB, joinB, hsub]
end Go.Proofs.YtlglgcmpeabdnaaGreatDoorAi
end

section
/- Contracts: opposite patterns. -/
namespace Go.Proofs.YtlglgcmpeabdnaaGreatDoorAi
open Go Go.RowKit
set_option linter.unusedVariables false
set_option linter.unusedSimpArgs false
set_option maxRecDepth 20000

def oppG (n e : Int) : AV := if graphOk n e = true then .tup [.agg [.int .i64 n, .int .u32 (notE e n)], .int .i64 0] else .tup [.agg [.int .i64 0, .int .u32 0], .int .i64 1]
@[simp] theorem oppG_lt (n e : Int) (k : Nat) : (oppG n e).lt k = true := by unfold oppG; split <;> rfl
end Go.Proofs.YtlglgcmpeabdnaaGreatDoorAi
end

section
/- Contracts: marks in patterns. -/
namespace Go.Proofs.YtlglgcmpeabdnaaGreatDoorAi
open Go Go.RowKit
set_option linter.unusedVariables false
set_option linter.unusedSimpArgs false
set_option maxRecDepth 20000

def kOk (k : Int) : Prop := 0 ≤ k ∧ k ≤ 1099511627776
noncomputable def sp_markFr : List (Option (List AV)) → List AV → Option (AV × List (Option (List AV))) := pv (pf (ι := (List Fr) × (Int) × (Cp)) (α := AV × List (Option (List AV))) (fun ⟨ps, k, t⟩ => kOk k ∧ ps.length ≤ 1048576) (fun i => .agg (((fun ⟨ps, k, t⟩ => [some (flatA (frsA ps))] : (List Fr) × (Int) × (Cp) → List (Option (List AV))) i).map enO) :: (fun ⟨ps, k, t⟩ => [.ref 0 2 0 ps.length t, .int .i64 k] : (List Fr) × (Int) × (Cp) → List AV) i) (fun ⟨ps, k, t⟩ => (.int .i64 (k + 2 * ps.length), [some (flatA (frsA (marksF ps.length k)))])))
theorem sp_markFr_eq (ps : List Fr) (k : Int) (t : Cp) (h : kOk k ∧ ps.length ≤ 1048576) : sp_markFr [some (flatA (frsA ps))] [.ref 0 2 0 ps.length t, .int .i64 k] = some (.int .i64 (k + 2 * ps.length), [some (flatA (frsA (marksF ps.length k)))]) := by
  unfold sp_markFr pv
  exact pf_eq (ι := (List Fr) × (Int) × (Cp)) (α := AV × List (Option (List AV))) (ps, k, t) h (by rintro ⟨ps', k', t'⟩ _ e; simp_all [enO, Int.natCast_inj])
theorem v_laws_markFractionS : QV PP 42 sp_markFr := by
  refine QV_pf fun i h => ?_
  obtain ⟨ps, k, t⟩ := i
  replace h : kOk k ∧ ps.length ≤ 1048576 := h
  refine H_code Quiet.nil hmix k_laws_markFractionS rfl (fun b => b) (by simp [AHeap.n]) (fun _ _ => rfl) (by rfl) (by first | rfl | simp) ?_
  show wpc _ PP _ c_laws_markFractionS (initSt [.ref 0 2 0 ps.length t, .int .i64 k] ⟨[some (flatA (frsA ps))]⟩) (endH (fun b => b) r_laws_markFractionS (.int .i64 (k + 2 * ps.length)) [some (flatA (frsA (marksF ps.length k)))])
  obtain ⟨hk, hl⟩ := h
  unfold kOk at hk
  simp -dsimp -implicitDefEqProofs [c_laws_markFractionS, r_laws_markFractionS]
  refine wpLoop_st (fun (i : Nat × List Fr) => ⟨tl [(0, .ref 0 2 0 ps.length t), (1, .int .i64 (k + 2 * i.1)), (5, .int .i64 i.1)], ⟨[some (flatA (frsA i.2))]⟩⟩) (fun i => i.1 ≤ ps.length ∧ i.2.length = ps.length ∧ i.2 = (marksF ps.length k).take i.1 ++ ps.drop i.1) (fun i => ps.length - i.1) (0, ps) ⟨by simp, rfl, by simp⟩ (Sub.keep (by simp) (by simp [hsub]) (by simp)) ?_
  rintro ⟨i, L⟩ ⟨h1, h2, h3⟩
  simp only at h1 h2 h3
  simp -dsimp -implicitDefEqProofs
  refine brW_of (fun h => ?_) (fun h => ?_) <;> simp only [decide_eq_true_eq, decide_eq_false_iff_not] at h
  · have hi : i < ps.length := by simpa using h
    have w1 : IntKind.i64.wrap (k + 2 * (i : Int) + 1) = k + 2 * i + 1 := wrapI64 (by omega) (by omega)
    have w2 : IntKind.i64.wrap (k + 2 * (i : Int) + 1 + 1) = k + 2 * i + 1 + 1 := wrapI64 (by omega) (by omega)
    have hw := wrapNat (i := i) (by omega)
    have f1 : i * 2 + 1 ≤ L.length * 2 := by omega
    have f2 : i * 2 + 1 + 1 ≤ L.length * 2 := by omega
    have hs := set_fr L i (k + 2 * i) (k + 2 * i + 1) (by omega)
    simp -dsimp -implicitDefEqProofs [hi, w1, w2, hw, f1, f2, hs]
    refine .mk (i + 1, L.set i ⟨k + 2 * i, k + 2 * i + 1⟩) ⟨by simp only; omega, by simp [h2], ?_⟩ (by simp only; omega) (Sub.keep (by simp) (by simp [hsub]) (by simp [w2, hw]; omega))
    simp only
    rw [h3]
    exact marks_step ps k i hi
  · have hi : i = ps.length := by simp at h; omega
    subst hi
    rw [marks_end] at h3
    subst h3
    simp -dsimp -implicitDefEqProofs [hsub]
noncomputable def sp_markFr0 : List AV → Option (AV) := pf (ι := (Int)) (α := AV) (fun k => True) (fun k => [.sl [] false, .int .i64 k]) (fun k => .int .i64 k)
theorem sp_markFr0_eq (k : Int) : sp_markFr0 [.sl [] false, .int .i64 k] = some (.int .i64 k) := by
  unfold sp_markFr0
  exact pf_eq (ι := (Int)) (α := AV) k trivial (by rintro k' _ e; simp_all [Int.natCast_inj])
attribute [simp] sp_markFr0_eq
theorem q_laws_markFractionS : QP PP 42 sp_markFr0 := by
  refine QP_pf (fun k h => ?_) fun k h => ?_
  · exact ⟨by first | rfl | simp, by first | rfl | simp⟩
  replace h : True := h
  refine P_code Quiet.nil hmix k_laws_markFractionS rfl ?_ ?_
  · first | rfl | simp
  show wpc 0 PP _ c_laws_markFractionS (initSt [.sl [] false, .int .i64 k] .nil) (endP r_laws_markFractionS (.int .i64 k))
  simp -dsimp -implicitDefEqProofs [c_laws_markFractionS, r_laws_markFractionS]
  refine wpLoop_st (fun (_ : Unit) => ⟨tl [(0, .sl [] false), (1, .int .i64 k), (5, .int .i64 0)], ⟨[]⟩⟩) (fun _ => True) (fun _ => 0) () trivial (Sub.keep (by simp) (by simp [hsub]) (by simp)) ?_
  intro _ _
  simp -dsimp -implicitDefEqProofs
theorem e_laws_markFractionS : QE PP 42 (refE (spV sp_markFr) (spR sp_markFr0)) := QE.ref v_laws_markFractionS.toE q_laws_markFractionS.toR
noncomputable def sp_heldFr : List AV → Option (AV) := pf (ι := (Nat) × (Int)) (α := AV) (fun ⟨n, k⟩ => kOk k ∧ n ≤ 1048576) (fun ⟨n, k⟩ => [.sl (frsA (marksF n k)) false, .int .i64 k]) (fun ⟨n, k⟩ => .int .i64 (k + 2 * n))
theorem sp_heldFr_eq (n : Nat) (k : Int) (h : kOk k ∧ n ≤ 1048576) : sp_heldFr [.sl (frsA (marksF n k)) false, .int .i64 k] = some (.int .i64 (k + 2 * n)) := by
  unfold sp_heldFr
  exact pf_eq (ι := (Nat) × (Int)) (α := AV) (n, k) h (by rintro ⟨n', k'⟩ _ e; simp_all [Int.natCast_inj])
theorem q_laws_heldFractionS : QP PP 43 sp_heldFr := by
  refine QP_pf (fun i h => ?_) fun i h => ?_
  · obtain ⟨n, k⟩ := i; exact ⟨by first | rfl | simp, by first | rfl | simp⟩
  obtain ⟨n, k⟩ := i
  replace h : kOk k ∧ n ≤ 1048576 := h
  refine P_code Quiet.nil hmix k_laws_heldFractionS rfl ?_ ?_
  · first | rfl | simp
  show wpc 0 PP _ c_laws_heldFractionS (initSt [.sl (frsA (marksF n k)) false, .int .i64 k] .nil) (endP r_laws_heldFractionS (.int .i64 (k + 2 * n)))
  obtain ⟨hk, hl⟩ := h
  unfold kOk at hk
  simp -dsimp -implicitDefEqProofs [c_laws_heldFractionS, r_laws_heldFractionS]
  refine wpLoop_st (fun (i : Nat) => ⟨tl [(0, .sl (frsA (marksF n k)) false), (1, .int .i64 (k + 2 * i)), (5, .int .i64 i)], ⟨[]⟩⟩) (fun i => i ≤ n) (fun i => n - i) 0 (by omega) (Sub.keep (by simp) (by simp [hsub]) (by simp)) ?_
  intro i hi
  simp -dsimp -implicitDefEqProofs
  refine brW_of (fun h => ?_) (fun h => ?_) <;> simp only [decide_eq_true_eq, decide_eq_false_iff_not] at h
  · have hi : i < n := by simpa using h
    have w1 : IntKind.i64.wrap (k + 2 * (i : Int) + 1) = k + 2 * i + 1 := wrapI64 (by omega) (by omega)
    have w2 : IntKind.i64.wrap (k + 2 * (i : Int) + 1 + 1) = k + 2 * i + 1 + 1 := wrapI64 (by omega) (by omega)
    have hw := wrapNat (i := i) (by omega)
    have hg := marksF_get n k i (by simpa using hi)
    simp -dsimp -implicitDefEqProofs [hi, w1, w2, hw, hg]
    exact .mk (i + 1) (by omega) (by omega) (Sub.keep (by simp) (by simp [hsub]) (by simp [w2, hw]; omega))
  · have hi : i = n := by simp at h; omega
    subst hi
    simp -dsimp -implicitDefEqProofs

noncomputable def sp_markPat : List (Option (List AV)) → List AV → Option (AV × List (Option (List AV))) := pv (pf (ι := (Int) × (Int) × (Int) × (List Fr) × (Int) × (Cp)) (α := AV × List (Option (List AV))) (fun ⟨a, b, c, ps, k, t⟩ => kOk k ∧ ps.length ≤ 1048576) (fun i => .agg (((fun ⟨a, b, c, ps, k, t⟩ => [some (flatA (frsA ps))] : (Int) × (Int) × (Int) × (List Fr) × (Int) × (Cp) → List (Option (List AV))) i).map enO) :: (fun ⟨a, b, c, ps, k, t⟩ => [.agg [.int .i64 a, .int .u32 b, .int .u32 c, .ref 0 2 0 ps.length t], .int .i64 k] : (Int) × (Int) × (Int) × (List Fr) × (Int) × (Cp) → List AV) i) (fun ⟨a, b, c, ps, k, t⟩ => (.int .i64 (k + 2 * ps.length), [some (flatA (frsA (marksF ps.length k)))])))
theorem sp_markPat_eq (a b c : Int) (ps : List Fr) (k : Int) (t : Cp) (h : kOk k ∧ ps.length ≤ 1048576) : sp_markPat [some (flatA (frsA ps))] [.agg [.int .i64 a, .int .u32 b, .int .u32 c, .ref 0 2 0 ps.length t], .int .i64 k] = some (.int .i64 (k + 2 * ps.length), [some (flatA (frsA (marksF ps.length k)))]) := by
  unfold sp_markPat pv
  exact pf_eq (ι := (Int) × (Int) × (Int) × (List Fr) × (Int) × (Cp)) (α := AV × List (Option (List AV))) (a, b, c, ps, k, t) h (by rintro ⟨a', b', c', ps', k', t'⟩ _ e; simp_all [enO, Int.natCast_inj])
theorem v_laws_markPattern : QV PP 10 sp_markPat := by
  refine QV_pf fun i h => ?_
  obtain ⟨a, b, c, ps, k, t⟩ := i
  replace h : kOk k ∧ ps.length ≤ 1048576 := h
  refine H_code (Quiet.e1 e_laws_markFractionS Quiet.nil) hmix k_laws_markPattern rfl (fun b => b) (by simp [AHeap.n]) (fun _ _ => rfl) (by rfl) (by first | rfl | simp) ?_
  show wpc _ PP _ c_laws_markPattern (initSt [.agg [.int .i64 a, .int .u32 b, .int .u32 c, .ref 0 2 0 ps.length t], .int .i64 k] ⟨[some (flatA (frsA ps))]⟩) (endH (fun b => b) r_laws_markPattern (.int .i64 (k + 2 * ps.length)) [some (flatA (frsA (marksF ps.length k)))])
  simp -dsimp -implicitDefEqProofs [c_laws_markPattern, r_laws_markPattern, sp_markFr_eq ps k t h, hsub]
noncomputable def sp_markPat0 : List AV → Option (AV) := pf (ι := (Int) × (Int) × (Int) × (Int)) (α := AV) (fun ⟨a, b, c, k⟩ => True) (fun ⟨a, b, c, k⟩ => [.agg [.int .i64 a, .int .u32 b, .int .u32 c, .sl [] false], .int .i64 k]) (fun ⟨a, b, c, k⟩ => .int .i64 k)
theorem sp_markPat0_eq (a b c k : Int) : sp_markPat0 [.agg [.int .i64 a, .int .u32 b, .int .u32 c, .sl [] false], .int .i64 k] = some (.int .i64 k) := by
  unfold sp_markPat0
  exact pf_eq (ι := (Int) × (Int) × (Int) × (Int)) (α := AV) (a, b, c, k) trivial (by rintro ⟨a', b', c', k'⟩ _ e; simp_all [Int.natCast_inj])
attribute [simp] sp_markPat0_eq
theorem q_laws_markPattern : QP PP 10 sp_markPat0 := by
  refine QP_pf (fun i h => ?_) fun i h => ?_
  · obtain ⟨a, b, c, k⟩ := i; exact ⟨by first | rfl | simp, by first | rfl | simp⟩
  obtain ⟨a, b, c, k⟩ := i
  replace h : True := h
  refine P_code (Quiet.e1 e_laws_markFractionS Quiet.nil) hmix k_laws_markPattern rfl ?_ ?_
  · first | rfl | simp
  show wpc 0 PP _ c_laws_markPattern (initSt [.agg [.int .i64 a, .int .u32 b, .int .u32 c, .sl [] false], .int .i64 k] .nil) (endP r_laws_markPattern (.int .i64 k))
  simp -dsimp -implicitDefEqProofs [c_laws_markPattern, r_laws_markPattern]
theorem e_laws_markPattern : QE PP 10 (refE (spV sp_markPat) (spR sp_markPat0)) := QE.ref v_laws_markPattern.toE q_laws_markPattern.toR
noncomputable def sp_heldPat : List AV → Option (AV) := pf (ι := (Int) × (Int) × (Int) × (Nat) × (Int)) (α := AV) (fun ⟨a, b, c, n, k⟩ => kOk k ∧ n ≤ 1048576) (fun ⟨a, b, c, n, k⟩ => [.agg [.int .i64 a, .int .u32 b, .int .u32 c, .sl (frsA (marksF n k)) false], .int .i64 k]) (fun ⟨a, b, c, n, k⟩ => .int .i64 (k + 2 * n))
theorem sp_heldPat_eq (a b c : Int) (n : Nat) (k : Int) (h : kOk k ∧ n ≤ 1048576) : sp_heldPat [.agg [.int .i64 a, .int .u32 b, .int .u32 c, .sl (frsA (marksF n k)) false], .int .i64 k] = some (.int .i64 (k + 2 * n)) := by
  unfold sp_heldPat
  exact pf_eq (ι := (Int) × (Int) × (Int) × (Nat) × (Int)) (α := AV) (a, b, c, n, k) h (by rintro ⟨a', b', c', n', k'⟩ _ e; simp_all [Int.natCast_inj])
theorem q_laws_heldPattern : QP PP 11 sp_heldPat := by
  refine QP_pf (fun i h => ?_) fun i h => ?_
  · obtain ⟨a, b, c, n, k⟩ := i; exact ⟨by first | rfl | simp, by first | rfl | simp⟩
  obtain ⟨a, b, c, n, k⟩ := i
  replace h : kOk k ∧ n ≤ 1048576 := h
  refine P_code (Quiet.q1 q_laws_heldFractionS Quiet.nil) hmix k_laws_heldPattern rfl ?_ ?_
  · first | rfl | simp
  show wpc 0 PP _ c_laws_heldPattern (initSt [.agg [.int .i64 a, .int .u32 b, .int .u32 c, .sl (frsA (marksF n k)) false], .int .i64 k] .nil) (endP r_laws_heldPattern (.int .i64 (k + 2 * n)))
  have hn : ¬ (k + 2 * (n : Int) < 0) := by unfold kOk at h; omega
  simp -dsimp -implicitDefEqProofs [c_laws_heldPattern, r_laws_heldPattern, sp_heldFr_eq n k h, hn]
end Go.Proofs.YtlglgcmpeabdnaaGreatDoorAi
end

section
/- Contracts: the pattern of opposite graphs. -/
namespace Go.Proofs.YtlglgcmpeabdnaaGreatDoorAi
open Go Go.RowKit
set_option linter.unusedVariables false
set_option linter.unusedSimpArgs false
set_option maxRecDepth 20000

end Go.Proofs.YtlglgcmpeabdnaaGreatDoorAi
end

section
/- Contracts: lists of numbers; graphs with so many vertices in each part. -/
namespace Go.Proofs.YtlglgcmpeabdnaaGreatDoorAi
open Go Go.RowKit
set_option linter.unusedVariables false
set_option linter.unusedSimpArgs false
set_option maxRecDepth 20000

/-! ### searching in lists -/
end Go.Proofs.YtlglgcmpeabdnaaGreatDoorAi
end

section
/- MADE BY PROGRAM (wip/tools/gen.py): the abstract code of functions. -/
namespace Go.Proofs.YtlglgcmpeabdnaaGreatDoorAi
open Go AC AOp Opd
set_option linter.unusedVariables false
set_option maxRecDepth 100000
def c_impl_fractionsText : AC := seq (reg [⟨(some 2), mv (c (.str ⟨#[]⟩)), none⟩]) (seq (reg [⟨(some 6), bsl 1 0 [.str ⟨#[]⟩] [], none⟩, ⟨(some 3), mv (t 6), none⟩]) (seq (seq (reg [⟨(some 7), mv (t 0), none⟩, ⟨(some 8), len (t 7), none⟩, ⟨(some 9), mv (c (.int .i64 0)), none⟩]) (block 0 (loop (seq (reg [⟨(some 10), bin .lss (t 9) (t 8), none⟩]) (seq (cond (t 10) (skip) (exit 0)) (seq (block 1 (seq (reg [⟨(some 11), iad 2 (t 7) (t 9), none⟩, ⟨(some 12), ld (t 11) 2 true, none⟩, ⟨(some 5), alloc [.int .i64 0, .int .i64 0], none⟩, ⟨none, st (t 5) 2 (t 12), none⟩]) (reg [⟨(some 13), mv (t 3), none⟩, ⟨(some 14), ld (t 5) 2 true, none⟩, ⟨(some 15), callq (c (.fn 134 [])) [t 14], none⟩, ⟨(some 16), bsl 1 1 [.str ⟨#[]⟩] [(0, t 15)], none⟩, ⟨(some 17), app 1 16 (t 13) (t 16), none⟩, ⟨(some 3), mv (t 17), none⟩]))) (reg [⟨(some 18), bin .add (t 9) (c (.int .i64 1)), none⟩, ⟨(some 9), mv (t 18), none⟩]))))))) (seq (reg [⟨(some 19), mv (t 3), none⟩, ⟨(some 20), calle (c (.fn 111 [])) [t 19, c (.str ⟨#[32]⟩)] [], none⟩, ⟨(some 2), mv (t 20), none⟩]) (ret))))
def r_impl_fractionsText : List ARes := [.tmp 2]
theorem k_impl_fractionsText : acLin Go.Proofs.Tryz.prog 94 1 (inQ [134] [111]) [] = some (c_impl_fractionsText, r_impl_fractionsText) := by kernel_rfl
end Go.Proofs.YtlglgcmpeabdnaaGreatDoorAi
end

section
/- Contracts: searching in lists of fractions and of rows; valid lists; valid matrices. -/
namespace Go.Proofs.YtlglgcmpeabdnaaGreatDoorAi
open Go Go.RowKit
set_option linter.unusedVariables false
set_option linter.unusedSimpArgs false
set_option maxRecDepth 20000

@[simp] def rowA (r : List Fr) : AV := .sl (frsA r) false
theorem rowA_inj0 : ∀ x y, rowA x = rowA y → x = y := by
  intro x y h
  simp only [rowA] at h
  injection h with h _
  exact frsA_inj.1 h
@[simp] theorem rowsA_inj {l k : List (List Fr)} : mapA rowA l = mapA rowA k ↔ l = k := ⟨mapA_inj rowA_inj0, fun h => by rw [h]⟩

/-! ### valid lists -/
end Go.Proofs.YtlglgcmpeabdnaaGreatDoorAi
end

section
/- Contracts: strings.Join. -/
namespace Go.Proofs.YtlglgcmpeabdnaaGreatDoorAi
open Go Go.RowKit
set_option linter.unusedVariables false
set_option linter.unusedSimpArgs false
set_option maxRecDepth 20000

/-- A library's function of which the result is known, that reads what its arguments reach and leaves memory as it is but for new blocks. -/
theorem T.libS {P : Program} {f : FuncId} {args : List AV} {r : AV} (he : Enters P f) (h : ∀ (σ : Sg) (w : World) (vs : List Value), RepL σ args vs → (∀ b off v, σ.cell b off = some v → w.cell? ⟨b, off, none⟩ = some v) → GoodW P w → Calls P f vs.toArray w fun e w' => ∃ v, e = .returned v ∧ Below w.heap.size w w' ∧ Rep σ r v) (A : AHeap) :
    T P f args A fun r' A' => r' = r ∧ A' = A := by
  refine ⟨he, fun B w0 σ w vs hG hb hs ha => (h σ w vs ha (fun b off v e => hs.cell e) (hG w hb)).mono fun e w' ⟨v, e1, e2, e3⟩ => ?_⟩
  refine ⟨r, A, v, σ, e1, ⟨rfl, rfl⟩, ⟨fun _ _ h => h, fun _ _ h => h, rfl, fun _ _ h => h⟩, hs.under e2, e3, hb.trans ⟨e2.os, e2.tape, e2.output, e2.size, fun k hk => e2.block k (hs.base k hk)⟩⟩

theorem rep_sl_inv {σ : Sg} {xs : List AV} {t : Bool} {v : Value} (h : Rep σ (.sl xs t) v) : (xs = [] ∧ ∃ a c, v = .slice a 0 c) ∨ ∃ b off c s, v = .slice (some ⟨b, off, none⟩) xs.length c ∧ xs.length ≤ c ∧
    ∀ (i : Nat) (x : AV), xs[i]? = some x → x.cells.length = s ∧ ∀ (j : Nat) (c : AV), x.cells[j]? = some c → ∃ u, σ.cell b (off + i * s + j) = some u ∧ Rep σ c u := by
  cases h with
  | slnil t a cap => exact .inl ⟨rfl, _, _, rfl⟩
  | sl xs t b off s cap val hlen hcap ht hs hm hr h1 hp =>
    exact .inr ⟨b, off, cap, s, rfl, hlen, fun i x hx => ⟨hs i x hx, fun j c hj => ⟨_, hm i x hx j c hj, hr i x hx j c hj⟩⟩⟩
@[simp] def strA (s : ByteArray) : AV := .str s
theorem strA_inj0 : ∀ x y, strA x = strA y → x = y := by
  intro x y h
  simp only [strA] at h
  injection h
abbrev strsA (l : List ByteArray) : List AV := mapA strA l
@[simp] theorem strsA_inj {l k : List ByteArray} : mapA strA l = mapA strA k ↔ l = k := ⟨mapA_inj strA_inj0, fun h => by rw [h]⟩
instance : Plain strA 1 := ⟨fun _ => rfl, by omega, fun _ => rfl, fun _ => rfl, fun _ => rfl, fun _ _ => rfl⟩
def joinT (l : List ByteArray) (sep : ByteArray) : ByteArray := ⟨(Go.Lib.join (l.map (·.data.toList)) sep.data.toList).toArray⟩
noncomputable def sp_joinS : List AV → Option (AV) := pf (ι := (List ByteArray) × (ByteArray)) (α := AV) (fun ⟨l, sep⟩ => l.length ≤ 1048576 ∧ (joinT l sep).size ≤ 140737488355328) (fun ⟨l, sep⟩ => [.sl (strsA l) false, .str sep]) (fun ⟨l, sep⟩ => .str (joinT l sep))
theorem sp_joinS_eq (l : List ByteArray) (sep : ByteArray) (h : l.length ≤ 1048576 ∧ (joinT l sep).size ≤ 140737488355328) : sp_joinS [.sl (strsA l) false, .str sep] = some (.str (joinT l sep)) := by
  unfold sp_joinS
  exact pf_eq (ι := (List ByteArray) × (ByteArray)) (α := AV) (l, sep) h (by rintro ⟨l', sep'⟩ _ e; simp_all [Int.natCast_inj])
theorem q_strings_Join : QP PP 111 sp_joinS := by
  refine QP_pf (fun i h => ?_) fun i h => ?_
  · obtain ⟨l, sep⟩ := i; exact ⟨by first | rfl | simp, by first | rfl | simp⟩
  obtain ⟨l, sep⟩ := i
  replace h : l.length ≤ 1048576 ∧ (joinT l sep).size ≤ 140737488355328 := h
  refine T.libS ⟨_, Tryz.func111, by kernel_rfl, by kernel_rfl⟩ (fun σ w vs hr hc hG => ?_) .nil
  obtain ⟨v1, us, rfl, h1, h2⟩ := hr.head
  obtain ⟨v2, us2, rfl, h3, h4⟩ := h2.head
  obtain rfl : us2 = [] := List.eq_nil_of_length_eq_zero h4.1.symm
  cases h3
  by_cases hl : l = []
  · have hv : ∃ a c, v1 = .slice a 0 c := by
      rcases rep_sl_inv h1 with ⟨_, h5⟩ | ⟨b, off, c, s, h5, _⟩
      · exact h5
      · exact ⟨_, _, by rw [h5, hl]; rfl⟩
    obtain ⟨a, c, rfl⟩ := hv
    refine (Tryz.strings_Join_none a c sep w).mono ?_
    rintro e w' ⟨rfl, rfl⟩
    refine ⟨_, rfl, Below.refl _ _, ?_⟩
    rw [hl]; exact .str _
  · have hv : ∃ b off c, v1 = .slice (some ⟨b, off, none⟩) l.length c ∧ l.length ≤ c ∧ ∀ (j : Nat) x, l[j]? = some x → w.cell? ⟨b, off + j, none⟩ = some (.string x) := by
      rcases rep_sl_inv h1 with ⟨h5, _⟩ | ⟨b, off, c, s, h5, h6, h7⟩
      · exact absurd (by simpa [mapA] using h5) hl
      · refine ⟨b, off, c, by rw [h5]; simp, by simpa using h6, fun j x hx => ?_⟩
        have hj : (mapA strA l)[j]? = some (strA x) := by simp [hx]
        obtain ⟨e1, e2⟩ := h7 j _ hj
        have e1 : 1 = s := e1
        subst e1
        obtain ⟨u, e3, e4⟩ := e2 0 (.str x) rfl
        have e5 := hc _ _ _ e3
        cases e4
        simpa using e5
    obtain ⟨b, off, c, rfl, hcap, hcells⟩ := hv
    have hbk : b < w.heap.size := by
      cases l with
      | nil => exact absurd rfl hl
      | cons x l =>
        have := hcells 0 x rfl
        unfold World.cell? at this
        rcases Nat.lt_or_ge b w.heap.size with hlt | hge
        · exact hlt
        · rw [Array.getElem?_eq_none hge] at this; cases this
    refine (Tryz.strings_Join b off c l sep w hcells hbk (by omega) hcap (by have := h.2; unfold joinT at this; simpa [ByteArray.size] using this)).mono ?_
    rintro e w' ⟨rfl, hb⟩
    exact ⟨_, rfl, hb, .str _⟩
end Go.Proofs.YtlglgcmpeabdnaaGreatDoorAi
end

section
/- Contracts: texts of lists of fractions and of matrices. -/
namespace Go.Proofs.YtlglgcmpeabdnaaGreatDoorAi
open Go Go.RowKit
set_option linter.unusedVariables false
set_option linter.unusedSimpArgs false
set_option maxRecDepth 20000

theorem ljoin_cons2 (x y : List UInt8) (r : List (List UInt8)) (sep : List UInt8) : Go.Lib.join (x :: y :: r) sep = x ++ (sep ++ Go.Lib.join (y :: r) sep) := by
  simp [Go.Lib.join, List.intercalate, List.intersperse]
theorem ljoin_snoc (sep x : List UInt8) : ∀ (l : List (List UInt8)), l ≠ [] → Go.Lib.join (l ++ [x]) sep = Go.Lib.join l sep ++ (sep ++ x)
  | [], h => absurd rfl h
  | [y], _ => by
    show Go.Lib.join [y, x] sep = _
    rw [ljoin_cons2, Go.Lib.join_one, Go.Lib.join_one]
  | y :: z :: r, _ => by
    show Go.Lib.join (y :: z :: (r ++ [x])) sep = _
    have ih := ljoin_snoc sep x (z :: r) (by simp)
    rw [ljoin_cons2, ljoin_cons2]
    rw [List.cons_append] at ih
    rw [ih]
    simp only [List.append_assoc]
theorem joinT_nil (sep : ByteArray) : joinT [] sep = ⟨#[]⟩ := rfl
theorem joinT_one (x sep : ByteArray) : joinT [x] sep = x := by
  unfold joinT; rw [List.map_cons, List.map_nil, Go.Lib.join_one]
theorem joinT_snoc (sep x : ByteArray) (l : List ByteArray) (h : l ≠ []) : joinT (l ++ [x]) sep = joinT l sep ++ (sep ++ x) := by
  unfold joinT
  rw [List.map_append, List.map_cons, List.map_nil, ljoin_snoc _ _ _ (by simpa using h)]
  apply ByteArray.ext
  simp
theorem joinT_size (sep : ByteArray) (m : Nat) : ∀ (l : List ByteArray), (∀ x ∈ l, x.size ≤ m) → (joinT l sep).size ≤ l.length * (m + sep.size)
  | [], _ => by simp [joinT_nil]
  | [y], h => by
    have := h y (List.mem_cons_self ..)
    rw [joinT_one, List.length_singleton]; omega
  | y :: z :: r, h => by
    have h1 := joinT_size sep m (z :: r) fun x hx => h x (List.mem_cons_of_mem _ hx)
    have h2 := h y (List.mem_cons_self ..)
    have e : (joinT (y :: z :: r) sep).size = y.size + (sep.size + (joinT (z :: r) sep).size) := by
      unfold joinT
      rw [List.map_cons, List.map_cons, ljoin_cons2]
      simp only [ba_size, List.size_toArray, List.length_append, Array.length_toList]
      rfl
    rw [e, List.length_cons, Nat.add_mul]
    rw [List.length_cons] at h1 ⊢
    omega
def oneB : ByteArray := ⟨#[32]⟩
def frS (x : Fr) : ByteArray := frT x.p x.q
def fracsT (l : List Fr) : ByteArray := joinT (l.map frS) oneB
theorem frS_size {x : Fr} (h : frOk x.p x.q = true) : (frS x).size ≤ 43 := by
  have hb := frOk_bd h
  have s1 := decB_size x.p (by omega) (by omega)
  have s2 := decB_size x.q (by omega) (by omega)
  unfold frS frT
  split
  · omega
  · have : slashB.size = 1 := rfl
    simp only [ByteArray.size_append]; omega
theorem allOk_get {l : List Fr} (h : allOk l = true) : ∀ x ∈ l, frOk x.p x.q = true := by
  unfold allOk at h
  exact fun x hx => List.all_eq_true.1 h x hx
theorem fracsT_size {l : List Fr} (h : allOk l = true) : (fracsT l).size ≤ l.length * 44 := by
  have := joinT_size oneB 43 (l.map frS) (by
    intro x hx
    obtain ⟨y, hy, rfl⟩ := List.mem_map.1 hx
    exact frS_size (allOk_get h y hy))
  have e : oneB.size = 1 := rfl
  rw [e, List.length_map] at this
  exact this
def lvS (N : Nat) (L : List ByteArray) : AV := if L = [] then .sl [] true else .ref N 1 0 L.length .full
def obS (L : List ByteArray) : List (Option (List AV)) := if L = [] then [] else [some (flatA (strsA L))]
theorem lvS_nil (N : Nat) : lvS N [] = .sl [] true := rfl
theorem obS_nil : obS [] = [] := rfl
theorem lvS_cons {N : Nat} {L : List ByteArray} (h : L ≠ []) : lvS N L = .ref N 1 0 L.length .full := if_neg h
theorem obS_cons {L : List ByteArray} (h : L ≠ []) : obS L = [some (flatA (strsA L))] := if_neg h
theorem strS_snoc (L : List ByteArray) (s : ByteArray) : flatA (strsA L) ++ [.str s] = flatA (strsA (L ++ [s])) := by
  rw [flatA_append]; rfl
@[simp] theorem gath_str (l : List ByteArray) (n : Nat) (h : n = l.length) : gath 1 n (flatA (mapA strA l)) = mapA strA l := flatA_gath l n h
def ftSt (l : List Fr) (i : Nat) : St := ⟨tl [(3, lvS 0 ((l.map frS).take i)), (7, .sl (frsA l) false), (8, .int .i64 l.length), (9, .int .i64 i)], ⟨obS ((l.map frS).take i)⟩⟩
noncomputable def sp_fracsText : List AV → Option (AV) := pf (ι := (List Fr)) (α := AV) (fun l => allOk l = true ∧ l.length ≤ 256) (fun l => [.sl (frsA l) false]) (fun l => .str (fracsT l))
theorem sp_fracsText_eq (l : List Fr) (h : allOk l = true ∧ l.length ≤ 256) : sp_fracsText [.sl (frsA l) false] = some (.str (fracsT l)) := by
  unfold sp_fracsText
  exact pf_eq (ι := (List Fr)) (α := AV) l h (by rintro l' _ e; simp_all [Int.natCast_inj])
theorem q_impl_fractionsText : QP PP 94 sp_fracsText := by
  refine QP_pf (fun l h => ?_) fun l h => ?_
  · exact ⟨by first | rfl | simp, by first | rfl | simp⟩
  replace h : allOk l = true ∧ l.length ≤ 256 := h
  refine P_code (Quiet.q1 q_impl_Fraction_text (Quiet.e1 q_strings_Join.toR Quiet.nil)) hmix k_impl_fractionsText rfl ?_ ?_
  · first | rfl | simp
  show wpc 0 PP _ c_impl_fractionsText (initSt [.sl (frsA l) false] .nil) (endP r_impl_fractionsText (.str (fracsT l)))
  obtain ⟨ho, hl⟩ := h
  have hj := sp_joinS_eq (l.map frS) oneB ⟨by simp; omega, by have := fracsT_size ho; unfold fracsT at this; omega⟩
  simp -dsimp -implicitDefEqProofs [c_impl_fractionsText, r_impl_fractionsText]
  refine wpLoop_st (ftSt l) (fun i => i ≤ l.length) (fun i => l.length - i) 0 (by omega) (Sub.keep (by simp [ftSt, obS_nil]) (by simp [hsub, ftSt, obS_nil]) (by simp [ftSt, lvS_nil])) ?_
  intro i hi
  simp -dsimp -implicitDefEqProofs [ftSt]
  refine brW_of (fun h => ?_) (fun h => ?_) <;> simp only [decide_eq_true_eq, decide_eq_false_iff_not] at h
  · have hx : i < l.length := by omega
    have hwi := wrapNat (i := i) (by omega)
    have hb := frOk_bd (allOk_get ho l[i] (List.getElem_mem hx))
    have ht := sp_frText_eq l[i].p l[i].q ⟨by omega, by omega⟩
    have e4 : (l.map frS).take (i + 1) = (l.map frS).take i ++ [frS l[i]] := by rw [take_snoc (l.map frS) i (by simpa using hx), List.getElem_map]
    have hlen : ((l.map frS).take i).length = i := by simp; omega
    have e6 : frT l[i].p l[i].q = frS l[i] := rfl
    have e2 := strS_snoc ((l.map frS).take i) (frS l[i])
    by_cases hL : (l.map frS).take i = []
    · rw [hL] at e4
      have l1 : 1 * 17 ≤ mostBytes := by decide
      rw [hL]
      simp -dsimp -implicitDefEqProofs [hx, ht, hwi, lvS_nil, obS_nil, l1, e6]
      exact .mk (i + 1) (by omega) (by omega) (Sub.mk' (fun b => if b = 0 then 2 else b) (by simp) (by intro b hb; simp at hb <;> omega) (by show injB _ (obS ((l.map frS).take (i + 1))).length = true; rw [e4, obS_cons (by simp)]; rfl) (by simp [hsub, ftSt, e4, obS, flatA_cons]) (by simp [ftSt, e4, lvS, obS, hwi]))
    · generalize hL2 : (l.map frS).take (i + 1) = L2 at *
      generalize (l.map frS).take i = L at *
      have l1 : (L.length + 1) * 17 ≤ mostBytes := by simp only [mostBytes]; omega
      have l2 : ¬ (L.length + 1 ≤ L.length) := by omega
      have l3 : (flatA (strsA L)).take L.length = flatA (strsA L) := List.take_of_length_le (by simp)
      have e5 : L2 ≠ [] := by rw [e4]; simp
      simp -dsimp -implicitDefEqProofs [hx, ht, hwi, l1, l2, l3, e2, e6, lvS_cons hL, obS_cons hL]
      exact .mk (i + 1) (by omega) (by omega) (Sub.mk' (fun b => if b = 0 then 3 else b) (by simp) (by intro b hb; simp at hb <;> omega) (by show injB _ (obS ((l.map frS).take (i + 1))).length = true; rw [hL2, obS_cons e5]; rfl) (by simp [hsub, ftSt, hL2, e4, obS_cons]) (by simp [ftSt, hL2, e4, lvS_cons, obS_cons, hwi]))
  · obtain rfl : i = l.length := by omega
    rw [show (l.map frS).take l.length = l.map frS from List.take_of_length_le (by simp)]
    unfold fracsT
    by_cases hL : l.map frS = []
    · rw [hL] at hj ⊢
      have hj' : sp_joinS [.sl [] false, .str ⟨#[32]⟩] = some (.str (joinT [] oneB)) := hj
      simp -dsimp -implicitDefEqProofs [lvS_nil, obS_nil, hj']
    · generalize l.map frS = L at *
      have hj' : sp_joinS [.sl (strsA L) false, .str ⟨#[32]⟩] = some (.str (joinT L oneB)) := hj
      simp -dsimp -implicitDefEqProofs [lvS_cons hL, obS_cons hL, hj']
end Go.Proofs.YtlglgcmpeabdnaaGreatDoorAi
end

section
/- Contracts: whole numbers and pieces of texts of the reference. -/
namespace Go.Proofs.YtlglgcmpeabdnaaGreatDoorAi
open Go Go.RowKit
set_option linter.unusedVariables false
set_option linter.unusedSimpArgs false
set_option maxRecDepth 20000

def billB : ByteArray := ⟨#[49, 48, 48, 48, 48, 48, 48, 48, 48, 48]⟩
def whB (s : ByteArray) : Bool := (s == billB) || l01B s
def whV (s : ByteArray) : Int := if (s == billB) = true then 1000000000 else l01V s
noncomputable def sp_whole2 : List AV → Option (AV) := pf (ι := (ByteArray)) (α := AV) (fun s => s.size ≤ 1048576) (fun s => [.str s]) (fun s => .tup [.int .i64 (whV s), .bool (whB s)])
theorem sp_whole2_eq (s : ByteArray) (h : s.size ≤ 1048576) : sp_whole2 [.str s] = some (.tup [.int .i64 (whV s), .bool (whB s)]) := by
  unfold sp_whole2
  exact pf_eq (ι := (ByteArray)) (α := AV) s h (by rintro s' _ e; simp_all [Int.natCast_inj])
theorem q_spec_l02Whole : QP PP 69 sp_whole2 := by
  refine QP_pf (fun s h => ?_) fun s h => ?_
  · exact ⟨by first | rfl | simp, by first | rfl | simp⟩
  replace h : s.size ≤ 1048576 := h
  refine P_code (Quiet.q1 q_spec_l01Number Quiet.nil) hmix k_spec_l02Whole rfl ?_ ?_
  · first | rfl | simp
  show wpc 0 PP _ c_spec_l02Whole (initSt [.str s] .nil) (endP r_spec_l02Whole (.tup [.int .i64 (whV s), .bool (whB s)]))
  have hn := sp_l01Num_eq s h
  unfold whV whB
  cases hb : (s == billB) with
  | true =>
    have e : s = billB := by rw [ba_eq] at hb; exact of_decide_eq_true hb
    subst e
    have hb' : (billB == (⟨#[49, 48, 48, 48, 48, 48, 48, 48, 48, 48]⟩ : ByteArray)) = true := hb
    have hs : billB.size = 10 := rfl
    simp -dsimp -implicitDefEqProofs [c_spec_l02Whole, r_spec_l02Whole, hb', hs]
  | false =>
    have hb' : (s == (⟨#[49, 48, 48, 48, 48, 48, 48, 48, 48, 48]⟩ : ByteArray)) = false := hb
    cases h10 : ((s.size : Int) == 10) <;> simp -dsimp -implicitDefEqProofs [c_spec_l02Whole, r_spec_l02Whole, hb', h10, hn]

def splF (s : ByteArray) (c : Int) : Nat → Nat → Nat → List ByteArray → List ByteArray
  | 0, _, f, out => out ++ [s.extract f s.size]
  | k + 1, i, f, out => if bAt s i = c then splF s c k (i + 1) (i + 1) (out ++ [s.extract f i]) else splF s c k (i + 1) f out
def splitL (s : ByteArray) (c : Int) : List ByteArray := splF s c s.size 0 0 []
theorem splF_len (s : ByteArray) (c : Int) : ∀ k i f out, (splF s c k i f out).length ≤ out.length + k + 1 ∧ splF s c k i f out ≠ []
  | 0, i, f, out => by simp [splF]
  | k + 1, i, f, out => by
    rw [splF]
    split
    · have := splF_len s c k (i + 1) (i + 1) (out ++ [s.extract f i])
      refine ⟨?_, this.2⟩
      have h1 := this.1
      simp at h1
      omega
    · have := splF_len s c k (i + 1) f out
      exact ⟨by omega, this.2⟩
def spSt (s : ByteArray) (c : Int) (q : Nat × Nat × List ByteArray) : St := ⟨tl [(0, .str s), (1, .int .u8 c), (5, lvS 0 q.2.2), (6, .int .i64 q.2.1), (7, .int .i64 q.1)], ⟨[some (flatA (strsA q.2.2))]⟩⟩
theorem lvS_lt1 (L : List ByteArray) : AV.lt 1 (lvS 0 L) = true := by
  by_cases hL : L = []
  · rw [hL, lvS_nil]; rfl
  · rw [lvS_cons hL]; simp
noncomputable def sp_split : List AV → Option (AV × List (Option (List AV))) := pf (ι := (ByteArray) × (Int)) (α := AV × List (Option (List AV))) (fun ⟨s, c⟩ => s.size ≤ 1048576 ∧ 0 ≤ c ∧ c ≤ 255) (fun ⟨s, c⟩ => [.str s, .int .u8 c]) (fun ⟨s, c⟩ => (.ref 0 1 0 (splitL s c).length .full, [some (flatA (strsA (splitL s c)))]))
theorem sp_split_eq (s : ByteArray) (c : Int) (h : s.size ≤ 1048576 ∧ 0 ≤ c ∧ c ≤ 255) : sp_split [.str s, .int .u8 c] = some ((.ref 0 1 0 (splitL s c).length .full, [some (flatA (strsA (splitL s c)))])) := by
  unfold sp_split
  exact pf_eq (ι := (ByteArray) × (Int)) (α := AV × List (Option (List AV))) (s, c) h (by rintro ⟨s', c'⟩ _ e; simp_all [Int.natCast_inj])
theorem n_spec_l01Split : QN PP 26 sp_split := by
  refine QN_pf (fun i h => ?_) fun i h => ?_
  · obtain ⟨s, c⟩ := i; first | rfl | simp
  obtain ⟨s, c⟩ := i
  replace h : s.size ≤ 1048576 ∧ 0 ≤ c ∧ c ≤ 255 := h
  show T PP 26 [.str s, .int .u8 c] .nil fun r' A' => r' = (((.ref 0 1 0 (splitL s c).length .full, [some (flatA (strsA (splitL s c)))]) : AV × List (Option (List AV)))).1 ∧ A' = ⟨(((.ref 0 1 0 (splitL s c).length .full, [some (flatA (strsA (splitL s c)))]) : AV × List (Option (List AV)))).2⟩
  obtain ⟨hl, hc0, hc1⟩ := h
  refine H_code Quiet.nil hmix k_spec_l01Split rfl (fun _ => 2) (by simp [AHeap.n, AHeap.nil]) (by intro b hb; simp [AHeap.n, AHeap.nil] at hb <;> subst hb <;> rfl) (by rfl) (by first | rfl | simp) ?_
  simp -dsimp -implicitDefEqProofs [c_spec_l01Split, r_spec_l01Split]
  refine wpLoop_st (spSt s c) (fun q => q.1 ≤ s.size ∧ q.2.1 ≤ q.1 ∧ q.2.2.length ≤ q.1 ∧ splF s c (s.size - q.1) q.1 q.2.1 q.2.2 = splitL s c) (fun q => s.size - q.1) (0, 0, []) ⟨by simp, by simp, by simp, rfl⟩ (Sub.keep (by simp [spSt]) (by simp [hsub, spSt]) (by simp [spSt, lvS_nil])) ?_
  rintro ⟨i, f, out⟩ ⟨hi, hf, ho, hs⟩
  simp only at hi hf ho hs
  simp -dsimp -implicitDefEqProofs [spSt]
  refine brW_of (fun h => ?_) (fun h => ?_) <;> simp only [decide_eq_true_eq, decide_eq_false_iff_not] at h
  · have hx : i < s.size := by omega
    have hw := wrapNat (i := i) (by omega)
    have hg := idx_at s i hx
    have hk : s.size - i = (s.size - (i + 1)) + 1 := by omega
    rw [hk, splF] at hs
    by_cases hb : bAt s i = c
    · rw [if_pos hb] at hs
      have hb' : (bAt s i == c) = true := by simpa using hb
      have c1 : f ≤ i ∧ i ≤ s.size := ⟨by omega, by omega⟩
      have c3 : i ≤ s.size := by omega
      have e2 := strS_snoc out (s.extract f i)
      by_cases hL : out = []
      · subst hL
        have l1 : 1 * 17 ≤ mostBytes := by decide
        simp -dsimp -implicitDefEqProofs [hx, hw, hg, hb, hb', lvS_nil, l1, hf, c3]
        refine .mk (i + 1, i + 1, [s.extract f i]) ⟨by simp only; omega, by simp only; omega, by simp, hs⟩ (by simp only; omega) (Sub.mk' (fun b => if b = 0 then 2 else b) (by simp [spSt]) (by intro b hb; simp [spSt] at hb <;> omega) (by rfl) (by simp [hsub, spSt, flatA_cons]) (by simp [spSt, lvS, hw]))
      · have l1 : (out.length + 1) * 17 ≤ mostBytes := by simp only [mostBytes]; omega
        have l2 : ¬ (out.length + 1 ≤ out.length) := by omega
        have l3 : (flatA (strsA out)).take out.length = flatA (strsA out) := List.take_of_length_le (by simp)
        have e5 : out ++ [s.extract f i] ≠ [] := by simp
        simp -dsimp -implicitDefEqProofs [hx, hw, hg, hb, hb', lvS_cons hL, l1, l2, l3, e2, hf, c3]
        refine .mk (i + 1, i + 1, out ++ [s.extract f i]) ⟨by simp only; omega, by simp only; omega, by simp; omega, hs⟩ (by simp only; omega) (Sub.mk' (fun b => if b = 0 then 2 else b) (by simp [spSt]) (by intro b hb; simp [spSt] at hb <;> omega) (by rfl) (by simp [hsub, spSt]) (by simp [spSt, lvS_cons e5, hw]))
    · rw [if_neg hb] at hs
      have hb' : (bAt s i == c) = false := by simpa using hb
      simp -dsimp -implicitDefEqProofs [hx, hw, hg, hb, hb']
      refine .mk (i + 1, f, out) ⟨by simp only; omega, by simp only; omega, by simp only; omega, hs⟩ (by simp only; omega) (Sub.keep (by simp [spSt]) (by simp [hsub, spSt]) (by simp [spSt, hw, lvS_lt1]))
  · have hi' : i = s.size := by omega
    subst hi'
    rw [Nat.sub_self, splF] at hs
    have e2 := strS_snoc out (s.extract f s.size)
    by_cases hL : out = []
    · subst hL
      have l1 : 1 * 17 ≤ mostBytes := by decide
      simp -dsimp -implicitDefEqProofs [lvS_nil, l1, hf, hsub, ← hs, flatA_cons]
    · have l1 : (out.length + 1) * 17 ≤ mostBytes := by simp only [mostBytes]; omega
      have l2 : ¬ (out.length + 1 ≤ out.length) := by omega
      have l3 : (flatA (strsA out)).take out.length = flatA (strsA out) := List.take_of_length_le (by simp)
      simp -dsimp -implicitDefEqProofs [lvS_cons hL, l1, l2, l3, e2, hf, hsub, ← hs]
end Go.Proofs.YtlglgcmpeabdnaaGreatDoorAi
end

section
/- Contracts: ReadFraction of the reference. -/
namespace Go.Proofs.YtlglgcmpeabdnaaGreatDoorAi
open Go Go.RowKit
set_option linter.unusedVariables false
set_option linter.unusedSimpArgs false
set_option maxRecDepth 20000

theorem flat_strs : ∀ (L : List ByteArray), flatA (strsA L) = strsA L
  | [] => rfl
  | x :: L => by
    rw [flatA_cons, flat_strs L]; rfl
theorem splF_size (s : ByteArray) (c : Int) : ∀ k i f out, (∀ x ∈ out, x.size ≤ s.size) → ∀ x ∈ splF s c k i f out, x.size ≤ s.size
  | 0, i, f, out, h => by
    intro x hx
    rw [splF] at hx
    rcases List.mem_append.1 hx with hx | hx
    · exact h x hx
    · obtain rfl := List.mem_singleton.1 hx
      rw [ByteArray.size_extract]; omega
  | k + 1, i, f, out, h => by
    intro x hx
    rw [splF] at hx
    split at hx
    · refine splF_size s c k _ _ _ (fun y hy => ?_) x hx
      rcases List.mem_append.1 hy with hy | hy
      · exact h y hy
      · obtain rfl := List.mem_singleton.1 hy
        rw [ByteArray.size_extract]; omega
    · exact splF_size s c k _ _ _ h x hx
theorem splitL_size (s : ByteArray) (c : Int) : ∀ x ∈ splitL s c, x.size ≤ s.size := splF_size s c _ _ _ _ (fun x hx => by cases hx)
theorem l01V_in (s : ByteArray) : 0 ≤ l01V s ∧ l01V s ≤ 1000000000 := by
  unfold l01V
  split
  · rename_i h
    unfold l01B at h
    simp only [Bool.and_eq_true, Bool.not_eq_true', Bool.or_eq_false_iff, decide_eq_false_iff_not] at h
    have hn := nV_in s s.size h.2
    have : (10 : Int) ^ s.size ≤ 10 ^ 9 := by
      have : s.size ≤ 9 := by omega
      exact_mod_cast Nat.pow_le_pow_right (by decide) this
    omega
  · omega
theorem whV_in (s : ByteArray) : 0 ≤ whV s ∧ whV s ≤ 1000000000 := by
  unfold whV
  split
  · omega
  · exact l01V_in s
def w0S (s : ByteArray) : ByteArray := (splitL s 47)[0]?.getD noB
def w1S (s : ByteArray) : ByteArray := (splitL s 47)[1]?.getD noB
def negS (s : ByteArray) : Bool := decide (0 < (w0S s).size) && (bAt (w0S s) 0 == 45)
def tpS (s : ByteArray) : ByteArray := if negS s = true then (w0S s).extract 1 (w0S s).size else w0S s
def rdP (s : ByteArray) : Int := if negS s = true then -whV (tpS s) else whV (tpS s)
def rdQ (s : ByteArray) : Int := if (splitL s 47).length = 2 then whV (w1S s) else 1
def rd2 (s : ByteArray) : Bool := if (splitL s 47).length = 2 then whB (w1S s) else decide ((splitL s 47).length = 1)
def rdOk (s : ByteArray) : Bool := (whB (tpS s) && rd2 s) && frOk (rdP s) (rdQ s) && (fracT (rdP s) (rdQ s) == s)
noncomputable def sp_l02Read : List AV → Option (AV) := pf (ι := (ByteArray)) (α := AV) (fun s => s.size ≤ 1048576) (fun s => [.str s]) (fun s => .tup [.agg [.int .i64 (rdP s), .int .i64 (rdQ s)], .bool (rdOk s)])
theorem sp_l02Read_eq (s : ByteArray) (h : s.size ≤ 1048576) : sp_l02Read [.str s] = some (.tup [.agg [.int .i64 (rdP s), .int .i64 (rdQ s)], .bool (rdOk s)]) := by
  unfold sp_l02Read
  exact pf_eq (ι := (ByteArray)) (α := AV) s h (by rintro s' _ e; simp_all [Int.natCast_inj])
set_option maxHeartbeats 4000000 in
theorem q_spec_l02Read : QP PP 29 sp_l02Read := by
  refine QP_pf (fun s h => ?_) fun s h => ?_
  · exact ⟨by first | rfl | simp, by first | rfl | simp⟩
  replace h : s.size ≤ 1048576 := h
  refine P_code (Quiet.q1 q_spec_l02Whole (Quiet.q1 q_spec_l02Ok (Quiet.q1 q_spec_FractionText (Quiet.e1 n_spec_l01Split.toE Quiet.nil)))) hmix k_spec_l02Read rfl ?_ ?_
  · first | rfl | simp
  show wpc 0 PP _ c_spec_l02Read (initSt [.str s] .nil) (endP r_spec_l02Read (.tup [.agg [.int .i64 (rdP s), .int .i64 (rdQ s)], .bool (rdOk s)]))
  have hsp := sp_split_eq s 47 ⟨h, by omega, by omega⟩
  have hne : splitL s 47 ≠ [] := (splF_len s 47 _ _ _ _).2
  have hsz := splitL_size s 47
  have hlen : 0 < (splitL s 47).length := List.length_pos_iff.2 hne
  have hleni : (0 : Int) < (splitL s 47).length := by omega
  have e0 : (splitL s 47)[0]'hlen = w0S s := by unfold w0S; rw [List.getElem?_eq_getElem hlen]; rfl
  have hz0 : (w0S s).size ≤ s.size := by rw [← e0]; exact hsz _ (List.getElem_mem hlen)
  have q0 : (flatA (strsA (splitL s 47)))[0]? = some (.str (w0S s)) := by rw [flat_strs]; simp [e0, hlen]
  have g0 : ∀ h2, (flatA (strsA (splitL s 47)))[0]'h2 = .str (w0S s) := fun h2 => by
    have := q0; rw [List.getElem?_eq_getElem h2] at this; exact Option.some.inj this
  have htp : (tpS s).size ≤ s.size := by
    unfold tpS
    split
    · rw [ByteArray.size_extract]; omega
    · exact hz0
  have hwt := sp_whole2_eq (tpS s) (by omega)
  have hin := whV_in (tpS s)
  have hwn : IntKind.wrap .i64 (-whV (tpS s)) = -whV (tpS s) := wrapI64 (by omega) (by omega)
  have hfo := sp_frOk_eq (rdP s) (rdQ s)
  have hft := sp_fracText_eq (rdP s) (rdQ s)
  have hw1 : (splitL s 47).length = 2 → sp_whole2 [.str (w1S s)] = some (.tup [.int .i64 (whV (w1S s)), .bool (whB (w1S s))]) ∧ (flatA (strsA (splitL s 47)))[1]? = some (.str (w1S s)) := by
    intro h2
    have h2' : 1 < (splitL s 47).length := by omega
    have e1 : (splitL s 47)[1]'h2' = w1S s := by unfold w1S; rw [List.getElem?_eq_getElem h2']; rfl
    refine ⟨sp_whole2_eq (w1S s) ?_, ?_⟩
    · have := hsz _ (List.getElem_mem h2'); rw [e1] at this; omega
    · rw [flat_strs]; simp [e1, h2']
  unfold rdOk
  generalize hW : splitL s 47 = W at *
  cases hn : negS s
  · have eT : tpS s = w0S s := by unfold tpS; rw [hn]; rfl
    have eP : rdP s = whV (tpS s) := by unfold rdP; rw [hn]; rfl
    rw [eP] at hfo hft ⊢
    rw [eT] at hwt hfo hft hwn ⊢
    by_cases hl2 : W.length = 2
    · obtain ⟨ha, hb⟩ := hw1 hl2
      have eQ : rdQ s = whV (w1S s) := by unfold rdQ; rw [hW, if_pos hl2]
      have e2 : rd2 s = whB (w1S s) := by unfold rd2; rw [hW, if_pos hl2]
      have l2 : ((W.length : Int) == 2) = true := by simp; omega
      have l1 : ((W.length : Int) == 1) = false := by simp; omega
      have l3 : (1 : Int) < W.length := by omega
      have l4 : 1 < W.length := by omega
      have g1 : ∀ h2, (flatA (strsA W))[1]'h2 = .str (w1S s) := fun h2 => by
        have := hb; rw [List.getElem?_eq_getElem h2] at this; exact Option.some.inj this
      rw [eQ] at hfo hft ⊢
      rw [e2]
      have hnn : ((w0S s).size : Int) ≤ 0 ∨ ((0 : Int) < (w0S s).size ∧ (bAt (w0S s) 0 == 45) = false) := by
        unfold negS at hn
        by_cases hp : 0 < (w0S s).size
        · rw [decide_eq_true hp] at hn
          exact .inr ⟨by omega, by simpa using hn⟩
        · exact .inl (by omega)
      have i0 : (0 : Int) < (w0S s).size → bytA (w0S s) 0 = some (.int .u8 (bAt (w0S s) 0)) := fun hp => idx_at (w0S s) 0 (by omega)
      rcases hnn with n1 | ⟨n1, n2⟩
      · have n1' : ¬ (0 : Int) < (w0S s).size := by omega
        have n1n : ¬ 0 < (w0S s).size := by omega
        cases h1 : (whB (w0S s)) <;> rw [h1] at hwt
        · simp -dsimp -implicitDefEqProofs [c_spec_l02Read, r_spec_l02Read, n1', n1n, hsp, hleni, hlen, q0, g0, hwt, l1, l2, ha, hb, g1, l3, l4, h1]
        · cases h2 : whB (w1S s) <;> rw [h2] at ha
          · simp -dsimp -implicitDefEqProofs [c_spec_l02Read, r_spec_l02Read, n1', n1n, hsp, hleni, hlen, q0, g0, hwt, l1, l2, ha, hb, g1, l3, l4, h1, h2]
          · cases h3 : frOk (whV (w0S s)) (whV (w1S s)) <;> rw [h3] at hfo
            · simp -dsimp -implicitDefEqProofs [c_spec_l02Read, r_spec_l02Read, n1', n1n, hsp, hleni, hlen, q0, g0, hwt, l1, l2, ha, hb, g1, l3, l4, h1, h2, hfo, h3]
            · cases h4 : (fracT (whV (w0S s)) (whV (w1S s)) == s)
              · simp -dsimp -implicitDefEqProofs [c_spec_l02Read, r_spec_l02Read, n1', n1n, hsp, hleni, hlen, q0, g0, hwt, l1, l2, ha, hb, g1, l3, l4, h1, h2, hfo, h3, hft, h4]
              · simp -dsimp -implicitDefEqProofs [c_spec_l02Read, r_spec_l02Read, n1', n1n, hsp, hleni, hlen, q0, g0, hwt, l1, l2, ha, hb, g1, l3, l4, h1, h2, hfo, h3, hft, h4]
      · have i1 := i0 n1
        have n1n : 0 < (w0S s).size := by omega
        cases h1 : (whB (w0S s)) <;> rw [h1] at hwt
        · simp -dsimp -implicitDefEqProofs [c_spec_l02Read, r_spec_l02Read, n1, n1n, n2, i1, hsp, hleni, hlen, q0, g0, hwt, l1, l2, ha, hb, g1, l3, l4, h1]
        · cases h2 : whB (w1S s) <;> rw [h2] at ha
          · simp -dsimp -implicitDefEqProofs [c_spec_l02Read, r_spec_l02Read, n1, n1n, n2, i1, hsp, hleni, hlen, q0, g0, hwt, l1, l2, ha, hb, g1, l3, l4, h1, h2]
          · cases h3 : frOk (whV (w0S s)) (whV (w1S s)) <;> rw [h3] at hfo
            · simp -dsimp -implicitDefEqProofs [c_spec_l02Read, r_spec_l02Read, n1, n1n, n2, i1, hsp, hleni, hlen, q0, g0, hwt, l1, l2, ha, hb, g1, l3, l4, h1, h2, hfo, h3]
            · cases h4 : (fracT (whV (w0S s)) (whV (w1S s)) == s)
              · simp -dsimp -implicitDefEqProofs [c_spec_l02Read, r_spec_l02Read, n1, n1n, n2, i1, hsp, hleni, hlen, q0, g0, hwt, l1, l2, ha, hb, g1, l3, l4, h1, h2, hfo, h3, hft, h4]
              · simp -dsimp -implicitDefEqProofs [c_spec_l02Read, r_spec_l02Read, n1, n1n, n2, i1, hsp, hleni, hlen, q0, g0, hwt, l1, l2, ha, hb, g1, l3, l4, h1, h2, hfo, h3, hft, h4]
    · by_cases hl1 : W.length = 1
      · have eQ : rdQ s = 1 := by unfold rdQ; rw [hW, if_neg hl2]
        have e2 : rd2 s = true := by unfold rd2; rw [hW, if_neg hl2]; exact decide_eq_true hl1
        have l2 : ((W.length : Int) == 2) = false := by simp; omega
        have l1 : ((W.length : Int) == 1) = true := by simp; omega
        rw [eQ] at hfo hft ⊢
        rw [e2]
        have hnn : ((w0S s).size : Int) ≤ 0 ∨ ((0 : Int) < (w0S s).size ∧ (bAt (w0S s) 0 == 45) = false) := by
          unfold negS at hn
          by_cases hp : 0 < (w0S s).size
          · rw [decide_eq_true hp] at hn
            exact .inr ⟨by omega, by simpa using hn⟩
          · exact .inl (by omega)
        have i0 : (0 : Int) < (w0S s).size → bytA (w0S s) 0 = some (.int .u8 (bAt (w0S s) 0)) := fun hp => idx_at (w0S s) 0 (by omega)
        rcases hnn with n1 | ⟨n1, n2⟩
        · have n1' : ¬ (0 : Int) < (w0S s).size := by omega
          have n1n : ¬ 0 < (w0S s).size := by omega
          cases h1 : (whB (w0S s)) <;> rw [h1] at hwt
          · simp -dsimp -implicitDefEqProofs [c_spec_l02Read, r_spec_l02Read, n1', n1n, hsp, hleni, hlen, q0, g0, hwt, l1, l2, h1]
          · cases h3 : frOk (whV (w0S s)) (1) <;> rw [h3] at hfo
            · simp -dsimp -implicitDefEqProofs [c_spec_l02Read, r_spec_l02Read, n1', n1n, hsp, hleni, hlen, q0, g0, hwt, l1, l2, h1, hfo, h3]
            · cases h4 : (fracT (whV (w0S s)) (1) == s)
              · simp -dsimp -implicitDefEqProofs [c_spec_l02Read, r_spec_l02Read, n1', n1n, hsp, hleni, hlen, q0, g0, hwt, l1, l2, h1, hfo, h3, hft, h4]
              · simp -dsimp -implicitDefEqProofs [c_spec_l02Read, r_spec_l02Read, n1', n1n, hsp, hleni, hlen, q0, g0, hwt, l1, l2, h1, hfo, h3, hft, h4]
        · have i1 := i0 n1
          have n1n : 0 < (w0S s).size := by omega
          cases h1 : (whB (w0S s)) <;> rw [h1] at hwt
          · simp -dsimp -implicitDefEqProofs [c_spec_l02Read, r_spec_l02Read, n1, n1n, n2, i1, hsp, hleni, hlen, q0, g0, hwt, l1, l2, h1]
          · cases h3 : frOk (whV (w0S s)) (1) <;> rw [h3] at hfo
            · simp -dsimp -implicitDefEqProofs [c_spec_l02Read, r_spec_l02Read, n1, n1n, n2, i1, hsp, hleni, hlen, q0, g0, hwt, l1, l2, h1, hfo, h3]
            · cases h4 : (fracT (whV (w0S s)) (1) == s)
              · simp -dsimp -implicitDefEqProofs [c_spec_l02Read, r_spec_l02Read, n1, n1n, n2, i1, hsp, hleni, hlen, q0, g0, hwt, l1, l2, h1, hfo, h3, hft, h4]
              · simp -dsimp -implicitDefEqProofs [c_spec_l02Read, r_spec_l02Read, n1, n1n, n2, i1, hsp, hleni, hlen, q0, g0, hwt, l1, l2, h1, hfo, h3, hft, h4]
      · have eQ : rdQ s = 1 := by unfold rdQ; rw [hW, if_neg hl2]
        have e2 : rd2 s = false := by unfold rd2; rw [hW, if_neg hl2]; exact decide_eq_false hl1
        have l2 : ((W.length : Int) == 2) = false := by simp; omega
        have l1 : ((W.length : Int) == 1) = false := by simp; omega
        rw [eQ] at hfo hft ⊢
        rw [e2]
        have hnn : ((w0S s).size : Int) ≤ 0 ∨ ((0 : Int) < (w0S s).size ∧ (bAt (w0S s) 0 == 45) = false) := by
          unfold negS at hn
          by_cases hp : 0 < (w0S s).size
          · rw [decide_eq_true hp] at hn
            exact .inr ⟨by omega, by simpa using hn⟩
          · exact .inl (by omega)
        have i0 : (0 : Int) < (w0S s).size → bytA (w0S s) 0 = some (.int .u8 (bAt (w0S s) 0)) := fun hp => idx_at (w0S s) 0 (by omega)
        rcases hnn with n1 | ⟨n1, n2⟩
        · have n1' : ¬ (0 : Int) < (w0S s).size := by omega
          have n1n : ¬ 0 < (w0S s).size := by omega
          cases h1 : (whB (w0S s)) <;> rw [h1] at hwt
          · simp -dsimp -implicitDefEqProofs [c_spec_l02Read, r_spec_l02Read, n1', n1n, hsp, hleni, hlen, q0, g0, hwt, l1, l2, h1]
          · simp -dsimp -implicitDefEqProofs [c_spec_l02Read, r_spec_l02Read, n1', n1n, hsp, hleni, hlen, q0, g0, hwt, l1, l2, h1]
        · have i1 := i0 n1
          have n1n : 0 < (w0S s).size := by omega
          cases h1 : (whB (w0S s)) <;> rw [h1] at hwt
          · simp -dsimp -implicitDefEqProofs [c_spec_l02Read, r_spec_l02Read, n1, n1n, n2, i1, hsp, hleni, hlen, q0, g0, hwt, l1, l2, h1]
          · simp -dsimp -implicitDefEqProofs [c_spec_l02Read, r_spec_l02Read, n1, n1n, n2, i1, hsp, hleni, hlen, q0, g0, hwt, l1, l2, h1]
  · have eT : tpS s = (w0S s).extract 1 (w0S s).size := by unfold tpS; rw [hn]; rfl
    have eP : rdP s = -whV (tpS s) := by unfold rdP; rw [hn]; rfl
    have hn' := hn
    unfold negS at hn'
    simp only [Bool.and_eq_true, decide_eq_true_eq] at hn'
    have n1 : (0 : Int) < (w0S s).size := by omega
    have n1n : 0 < (w0S s).size := by omega
    have n2 := hn'.2
    have n3 : 1 ≤ (w0S s).size := by omega
    have i0 : bytA (w0S s) 0 = some (.int .u8 (bAt (w0S s) 0)) := idx_at (w0S s) 0 (by omega)
    rw [eP] at hfo hft ⊢
    rw [eT] at hwt hfo hft hwn ⊢
    by_cases hl2 : W.length = 2
    · obtain ⟨ha, hb⟩ := hw1 hl2
      have eQ : rdQ s = whV (w1S s) := by unfold rdQ; rw [hW, if_pos hl2]
      have e2 : rd2 s = whB (w1S s) := by unfold rd2; rw [hW, if_pos hl2]
      have l2 : ((W.length : Int) == 2) = true := by simp; omega
      have l1 : ((W.length : Int) == 1) = false := by simp; omega
      have l3 : (1 : Int) < W.length := by omega
      have l4 : 1 < W.length := by omega
      have g1 : ∀ h2, (flatA (strsA W))[1]'h2 = .str (w1S s) := fun h2 => by
        have := hb; rw [List.getElem?_eq_getElem h2] at this; exact Option.some.inj this
      rw [eQ] at hfo hft ⊢
      rw [e2]
      cases h1 : (whB ((w0S s).extract 1 (w0S s).size)) <;> rw [h1] at hwt
      · simp -dsimp -implicitDefEqProofs [c_spec_l02Read, r_spec_l02Read, hsp, hleni, hlen, q0, g0, hwt, l1, l2, n1, n1n, n2, n3, i0, hwn, ha, hb, g1, l3, l4, h1]
      · cases h2 : whB (w1S s) <;> rw [h2] at ha
        · simp -dsimp -implicitDefEqProofs [c_spec_l02Read, r_spec_l02Read, hsp, hleni, hlen, q0, g0, hwt, l1, l2, n1, n1n, n2, n3, i0, hwn, ha, hb, g1, l3, l4, h1, h2]
        · cases h3 : frOk (-whV ((w0S s).extract 1 (w0S s).size)) (whV (w1S s)) <;> rw [h3] at hfo
          · simp -dsimp -implicitDefEqProofs [c_spec_l02Read, r_spec_l02Read, hsp, hleni, hlen, q0, g0, hwt, l1, l2, n1, n1n, n2, n3, i0, hwn, ha, hb, g1, l3, l4, h1, h2, hfo, h3]
          · cases h4 : (fracT (-whV ((w0S s).extract 1 (w0S s).size)) (whV (w1S s)) == s)
            · simp -dsimp -implicitDefEqProofs [c_spec_l02Read, r_spec_l02Read, hsp, hleni, hlen, q0, g0, hwt, l1, l2, n1, n1n, n2, n3, i0, hwn, ha, hb, g1, l3, l4, h1, h2, hfo, h3, hft, h4]
            · simp -dsimp -implicitDefEqProofs [c_spec_l02Read, r_spec_l02Read, hsp, hleni, hlen, q0, g0, hwt, l1, l2, n1, n1n, n2, n3, i0, hwn, ha, hb, g1, l3, l4, h1, h2, hfo, h3, hft, h4]
    · by_cases hl1 : W.length = 1
      · have eQ : rdQ s = 1 := by unfold rdQ; rw [hW, if_neg hl2]
        have e2 : rd2 s = true := by unfold rd2; rw [hW, if_neg hl2]; exact decide_eq_true hl1
        have l2 : ((W.length : Int) == 2) = false := by simp; omega
        have l1 : ((W.length : Int) == 1) = true := by simp; omega
        rw [eQ] at hfo hft ⊢
        rw [e2]
        cases h1 : (whB ((w0S s).extract 1 (w0S s).size)) <;> rw [h1] at hwt
        · simp -dsimp -implicitDefEqProofs [c_spec_l02Read, r_spec_l02Read, hsp, hleni, hlen, q0, g0, hwt, l1, l2, n1, n1n, n2, n3, i0, hwn, h1]
        · cases h3 : frOk (-whV ((w0S s).extract 1 (w0S s).size)) (1) <;> rw [h3] at hfo
          · simp -dsimp -implicitDefEqProofs [c_spec_l02Read, r_spec_l02Read, hsp, hleni, hlen, q0, g0, hwt, l1, l2, n1, n1n, n2, n3, i0, hwn, h1, hfo, h3]
          · cases h4 : (fracT (-whV ((w0S s).extract 1 (w0S s).size)) (1) == s)
            · simp -dsimp -implicitDefEqProofs [c_spec_l02Read, r_spec_l02Read, hsp, hleni, hlen, q0, g0, hwt, l1, l2, n1, n1n, n2, n3, i0, hwn, h1, hfo, h3, hft, h4]
            · simp -dsimp -implicitDefEqProofs [c_spec_l02Read, r_spec_l02Read, hsp, hleni, hlen, q0, g0, hwt, l1, l2, n1, n1n, n2, n3, i0, hwn, h1, hfo, h3, hft, h4]
      · have eQ : rdQ s = 1 := by unfold rdQ; rw [hW, if_neg hl2]
        have e2 : rd2 s = false := by unfold rd2; rw [hW, if_neg hl2]; exact decide_eq_false hl1
        have l2 : ((W.length : Int) == 2) = false := by simp; omega
        have l1 : ((W.length : Int) == 1) = false := by simp; omega
        rw [eQ] at hfo hft ⊢
        rw [e2]
        cases h1 : (whB ((w0S s).extract 1 (w0S s).size)) <;> rw [h1] at hwt
        · simp -dsimp -implicitDefEqProofs [c_spec_l02Read, r_spec_l02Read, hsp, hleni, hlen, q0, g0, hwt, l1, l2, n1, n1n, n2, n3, i0, hwn, h1]
        · simp -dsimp -implicitDefEqProofs [c_spec_l02Read, r_spec_l02Read, hsp, hleni, hlen, q0, g0, hwt, l1, l2, n1, n1n, n2, n3, i0, hwn, h1]
end Go.Proofs.YtlglgcmpeabdnaaGreatDoorAi
end

section
/- Plain law: both readings of fractions agree. -/
namespace Go.Proofs.YtlglgcmpeabdnaaGreatDoorAi
open Go Go.RowKit
set_option linter.unusedVariables false
set_option linter.unusedSimpArgs false
set_option maxRecDepth 20000

/-! ### bytes of joined texts -/
theorem bAt_left (a b : ByteArray) (i : Nat) (h : i < a.size) : bAt (a ++ b) i = bAt a i := by
  have h' : i < a.data.toList.length := by rw [Array.length_toList]; exact h
  unfold bAt
  rw [ByteArray.data_append, Array.toList_append, List.getElem?_append_left h']
theorem bAt_right (a b : ByteArray) (i : Nat) : bAt (a ++ b) (a.size + i) = bAt b i := by
  have h' : a.data.toList.length = a.size := by rw [Array.length_toList]; rfl
  unfold bAt
  rw [ByteArray.data_append, Array.toList_append, List.getElem?_append_right (by omega), h', Nat.add_sub_cancel_left]
theorem nV_left (a b : ByteArray) : ∀ i, i ≤ a.size → nV (a ++ b) i = nV a i
  | 0, _ => rfl
  | i + 1, h => by rw [nV, nV, nV_left a b i (by omega), bAt_left a b i (by omega)]
theorem nOk_left (a b : ByteArray) : ∀ i, i ≤ a.size → nOk (a ++ b) i = nOk a i
  | 0, _ => rfl
  | i + 1, h => by rw [nOk, nOk, nOk_left a b i (by omega), bAt_left a b i (by omega)]
theorem ext_left (a b : ByteArray) : (a ++ b).extract 0 a.size = a := by
  apply ByteArray.ext
  apply Array.ext'
  have h' : a.data.toList.length = a.size := by rw [Array.length_toList]; rfl
  rw [ByteArray.data_extract, Array.toList_extract, ByteArray.data_append, Array.toList_append, ← h']
  simp [List.extract]
theorem ext_right (a b : ByteArray) : (a ++ b).extract a.size (a ++ b).size = b := by
  apply ByteArray.ext
  apply Array.ext'
  have h' : a.data.toList.length = a.size := by rw [Array.length_toList]; rfl
  have h2 : b.data.toList.length = b.size := by rw [Array.length_toList]; rfl
  rw [ByteArray.data_extract, Array.toList_extract, ByteArray.data_append, Array.toList_append, ByteArray.size_append, ← h', ← h2]
  simp [List.extract]
  exact List.take_of_length_le (by omega)
theorem ext_all (a : ByteArray) : a.extract 0 a.size = a := by
  have := ext_left a noB
  have e : a ++ noB = a := by apply ByteArray.ext; simp [noB]
  rw [e] at this
  exact this
/-! ### bytes of numerals -/
theorem bAt_one (d : Nat) (h : d < 10) : bAt ⟨[UInt8.ofNat (48 + d)].toArray⟩ 0 = 48 + d := by
  unfold bAt
  show ((UInt8.ofNat (48 + d)).toNat : Int) = _
  rw [dig_toNat h]; omega
theorem decB_facts (u : Nat) (hu : u < 4611686018427387904) : nV (decB u) (decB u).size = u ∧ nOk (decB u) (decB u).size = true ∧ 0 < (decB u).size ∧ (1 ≤ u → bAt (decB u) 0 ≠ 48) ∧ (10 ≤ u → 1 < (decB u).size) := by
  induction u using Nat.strongRecOn with
  | ind u ih =>
    by_cases h : u < 10
    · rw [decB_small (by omega) (by omega)]
      have hb := bAt_one u h
      have e : ((u : Int)).toNat = u := by omega
      rw [e]
      refine ⟨?_, ?_, ?_, ?_, by omega⟩
      · show 0 * 10 + (bAt _ 0 - 48) = _
        rw [hb]; omega
      · show (true && isDig (bAt _ 0)) = true
        rw [hb]; unfold isDig; simp; omega
      · show 0 < 1; omega
      · intro h1; rw [hb]; omega
    · obtain ⟨i1, i2, i3, i4, i5⟩ := ih (u / 10) (by omega) (by omega)
      have e1 : (u : Int).tdiv 10 = ((u / 10 : Nat) : Int) := by rw [Int.tdiv_eq_ediv_of_nonneg (by omega)]; omega
      have e2 : ((u : Int).tmod 10).toNat = u % 10 := by rw [Int.tmod_eq_emod_of_nonneg (by omega)]; omega
      rw [decB_step (by omega), e1, e2]
      generalize decB ((u / 10 : Nat) : Int) = A at *
      have hb := bAt_one (u % 10) (by omega)
      generalize hD : (⟨[UInt8.ofNat (48 + u % 10)].toArray⟩ : ByteArray) = D at *
      have hs : D.size = 1 := by rw [← hD]; rfl
      have hr := bAt_right A D 0
      rw [Nat.add_zero] at hr
      rw [ByteArray.size_append, hs]
      refine ⟨?_, ?_, by omega, ?_, by omega⟩
      · rw [nV, nV_left A D _ (Nat.le_refl _), i1, hr, hb]; omega
      · rw [nOk, nOk_left A D _ (Nat.le_refl _), i2, hr, hb]; unfold isDig; simp; omega
      · intro _
        rw [bAt_left A D 0 i3]
        exact i4 (by omega)
theorem decB_bill : decB 1000000000 = billB := by
  unfold decB Go.Lib.itoa billB
  simp [Go.Lib.decDigits]
theorem wh_dec (n : Int) (h0 : 0 ≤ n) (h1 : n ≤ 1000000000) : whV (decB n) = n ∧ whB (decB n) = true := by
  unfold whV whB
  by_cases hb : n = 1000000000
  · subst hb
    rw [decB_bill, beq_ba]; exact ⟨rfl, rfl⟩
  · have hf : (decB n == billB) = false := by
      rw [ba_eq]
      refine decide_eq_false fun e => hb ?_
      have h2 := (num_dec n (by omega) (by omega)).1
      have h3 := (num_dec 1000000000 (by omega) (by omega)).1
      rw [decB_bill] at h3
      rw [e, h3] at h2
      exact h2.symm
    rw [hf]
    obtain ⟨u, rfl⟩ := Int.eq_ofNat_of_zero_le h0
    obtain ⟨f1, f2, f3, f4, f5⟩ := decB_facts u (by omega)
    have hsz : (decB u).size ≤ 9 := by
      have h2 := nDig_le 8 u (by omega)
      have : (decB (u : Int)).size = Go.Lib.nDigits u := by
        unfold decB Go.Lib.itoa
        rw [if_neg (by omega), ba_size, List.size_toArray, Go.Lib.decDigits_length, Int.toNat_natCast]
      omega
    have hB : l01B (decB u) = true := by
      have a1 : decide ((decB (u : Int)).size < 1) = false := decide_eq_false (by omega)
      have a2 : decide (9 < (decB (u : Int)).size) = false := decide_eq_false (by omega)
      unfold l01B
      rw [f2, a1, a2]
      by_cases hu : 1 ≤ u
      · have := f4 hu
        have e : (bAt (decB u) 0 == 48) = false := by simpa using this
        rw [e]; rfl
      · have : u = 0 := by omega
        subst this
        have : (decB ((0 : Nat) : Int)).size = 1 := by rw [decB_small (by omega) (by omega)]; rfl
        rw [this]; simp
    refine ⟨?_, by rw [hB]; rfl⟩
    simp only [Bool.false_eq_true, if_false]
    unfold l01V
    rw [if_pos hB, f1]
theorem itoa_ne (n : Int) : ∀ c ∈ Go.Lib.itoa n, c ≠ 47 := by
  intro c hc e
  subst e
  unfold Go.Lib.itoa at hc
  split at hc
  · rcases List.mem_cons.1 hc with hc | hc
    · exact absurd hc (by decide)
    · have := (decD_dig _ _ hc).1
      exact absurd this (by decide)
  · have := (decD_dig _ _ hc).1
    exact absurd this (by decide)
theorem bAt_dec (n : Int) (i : Nat) (h : i < (decB n).size) : bAt (decB n) i ≠ 47 := by
  have h' : i < (Go.Lib.itoa n).length := by
    have : (decB n).size = (Go.Lib.itoa n).length := by unfold decB; rw [ba_size, List.size_toArray]
    omega
  unfold bAt decB
  simp only [List.getElem?_eq_getElem h', Option.getD_some]
  have hm := itoa_ne n _ (List.getElem_mem h')
  intro e
  apply hm
  apply UInt8.toNat_inj.1
  have : (Go.Lib.itoa n)[i].toNat = 47 := by omega
  rw [this]; rfl
end Go.Proofs.YtlglgcmpeabdnaaGreatDoorAi
end

section
/- Plain law and law: ReadFraction. -/
namespace Go.Proofs.YtlglgcmpeabdnaaGreatDoorAi
open Go Go.RowKit
set_option linter.unusedVariables false
set_option linter.unusedSimpArgs false
set_option maxRecDepth 20000

/-! ### the program's reading of a fraction's text -/
theorem index_none' : ∀ (a : List UInt8), (∀ c ∈ a, c ≠ 47) → Go.Lib.index a [47] = -1
  | [], _ => rfl
  | c :: a, h => by
    rw [Go.Lib.index, index_none' a fun d hd => h d (List.mem_cons_of_mem _ hd)]
    have hc := h c (List.mem_cons_self ..)
    have : List.isPrefixOf [47] (c :: a) = false := by
      simp [List.isPrefixOf]; exact fun e => hc e.symm
    rw [this]; rfl
theorem index_at' (b : List UInt8) : ∀ (a : List UInt8), (∀ c ∈ a, c ≠ 47) → Go.Lib.index (a ++ 47 :: b) [47] = a.length
  | [], _ => by
    rw [List.nil_append, Go.Lib.index]
    have : List.isPrefixOf [47] ((47 : UInt8) :: b) = true := by simp [List.isPrefixOf]
    rw [if_pos this]; rfl
  | c :: a, h => by
    rw [List.cons_append, Go.Lib.index, index_at' b a fun d hd => h d (List.mem_cons_of_mem _ hd)]
    have hc := h c (List.mem_cons_self ..)
    have : List.isPrefixOf [47] (c :: (a ++ 47 :: b)) = false := by
      simp [List.isPrefixOf]; exact fun e => hc e.symm
    rw [this]
    have h2 : ((a.length : Int) == -1) = false := by rw [beq_eq_false_iff_ne]; omega
    rw [h2]; simp
theorem ones_dec : decB 1 = onesB := by rw [decB_small (by omega) (by omega)]; rfl
theorem impl_reads {p q : Int} (h : frOk p q = true) : numV (topS (frT p q)) = p ∧ numV (botS (frT p q)) = q ∧ numB (topS (frT p q)) = true ∧ numB (botS (frT p q)) = true := by
  have hb := frOk_bd h
  have hp := num_dec p (by omega) (by omega)
  have hq := num_dec q (by omega) (by omega)
  have hl : ∀ n, (decB n).data.toList = Go.Lib.itoa n := fun n => by simp [decB]
  by_cases h1 : q = 1
  · subst h1
    have e : frT p 1 = decB p := by unfold frT; rw [if_pos rfl]
    have hc : Go.Lib.cut (decB p).data.toList slashB.data.toList = ((decB p).data.toList, [], false) := by
      unfold Go.Lib.cut
      rw [if_neg]
      rw [hl]
      show ¬ 0 ≤ Go.Lib.index (Go.Lib.itoa p) [47]
      rw [index_none' _ (itoa_ne p)]; omega
    have eA : topS (frT p 1) = decB p := by unfold topS cutA; rw [e, hc]
    have eI : cutI (frT p 1) slashB = false := by unfold cutI; rw [e, hc]
    have eB : botS (frT p 1) = decB 1 := by unfold botS; rw [eI, ones_dec]; rfl
    rw [eA, eB]
    exact ⟨hp.1, hq.1, hp.2, hq.2⟩
  · have e : frT p q = decB p ++ slashB ++ decB q := by unfold frT; rw [if_neg h1]
    have el : (frT p q).data.toList = Go.Lib.itoa p ++ 47 :: Go.Lib.itoa q := by
      rw [e, ByteArray.data_append, ByteArray.data_append, Array.toList_append, Array.toList_append, hl, hl]
      simp [slashB]
    have hc : Go.Lib.cut (frT p q).data.toList slashB.data.toList = (Go.Lib.itoa p, Go.Lib.itoa q, true) := by
      unfold Go.Lib.cut
      have hi : Go.Lib.index (frT p q).data.toList slashB.data.toList = (Go.Lib.itoa p).length := by
        rw [el]; exact index_at' _ _ (itoa_ne p)
      rw [hi, if_pos (by omega), el]
      have hs : slashB.data.toList.length = 1 := rfl
      rw [hs, Int.toNat_natCast]
      simp
    have eA : topS (frT p q) = decB p := by unfold topS cutA; rw [hc]; rfl
    have eI : cutI (frT p q) slashB = true := by unfold cutI; rw [hc]
    have eB : botS (frT p q) = decB q := by unfold botS; rw [if_pos eI]; unfold cutB; rw [hc]; rfl
    rw [eA, eB]
    exact ⟨hp.1, hq.1, hp.2, hq.2⟩

/-! ### the reference's reading -/
theorem splF_skip (s : ByteArray) (c : Int) (k f : Nat) (out : List ByteArray) : ∀ (m i : Nat), (∀ j, i ≤ j → j < i + m → bAt s j ≠ c) → splF s c (m + k) i f out = splF s c k (i + m) f out
  | 0, i, _ => by rw [Nat.zero_add, Nat.add_zero]
  | m + 1, i, h => by
    rw [show m + 1 + k = (m + k) + 1 by omega, splF, if_neg (h i (by omega) (by omega)), splF_skip s c k f out m (i + 1) (fun j h1 h2 => h j (by omega) (by omega)), show i + 1 + m = i + (m + 1) by omega]
theorem split_one (n : Int) : splitL (decB n) 47 = [decB n] := by
  unfold splitL
  have := splF_skip (decB n) 47 0 0 [] (decB n).size 0 (fun j _ h => bAt_dec n j (by omega))
  rw [Nat.add_zero, Nat.zero_add] at this
  rw [this, splF, ext_all]; rfl
theorem split_two (p q : Int) : splitL (decB p ++ slashB ++ decB q) 47 = [decB p, decB q] := by
  unfold splitL
  have hs : slashB.size = 1 := rfl
  have e1 : decB p ++ slashB ++ decB q = decB p ++ (slashB ++ decB q) := ByteArray.append_assoc ..
  have hsz : (decB p ++ slashB ++ decB q).size = (decB p).size + (1 + (decB q).size) := by rw [e1, ByteArray.size_append, ByteArray.size_append, hs]
  have hA : ∀ j, j < (decB p).size → bAt (decB p ++ slashB ++ decB q) j = bAt (decB p) j := fun j hj => by rw [e1, bAt_left _ _ _ hj]
  have hM : bAt (decB p ++ slashB ++ decB q) (decB p).size = 47 := by
    have := bAt_right (decB p) (slashB ++ decB q) 0
    rw [Nat.add_zero] at this
    rw [e1, this, bAt_left slashB (decB q) 0 (by rw [hs]; omega)]; rfl
  have hB : ∀ j, bAt (decB p ++ slashB ++ decB q) ((decB p).size + 1 + j) = bAt (decB q) j := fun j => by
    have := bAt_right (decB p ++ slashB) (decB q) j
    rw [ByteArray.size_append, hs] at this
    exact this
  have eL : (decB p ++ slashB ++ decB q).extract 0 (decB p).size = decB p := by rw [e1]; exact ext_left _ _
  have eR : (decB p ++ slashB ++ decB q).extract ((decB p).size + 1) (decB p ++ slashB ++ decB q).size = decB q := by
    have := ext_right (decB p ++ slashB) (decB q)
    rw [ByteArray.size_append (a := decB p), hs] at this
    exact this
  generalize decB p ++ slashB ++ decB q = s at *
  have s1 := splF_skip s 47 (1 + (decB q).size) 0 [] (decB p).size 0 (fun j _ h => by rw [hA j (by omega)]; exact bAt_dec p j (by omega))
  rw [Nat.zero_add] at s1
  rw [hsz, s1, show 1 + (decB q).size = (decB q).size + 1 by omega, splF, if_pos hM, eL]
  have s2 := splF_skip s 47 0 ((decB p).size + 1) ([] ++ [decB p]) (decB q).size ((decB p).size + 1) (fun j h1 h2 => by
    have := hB (j - ((decB p).size + 1))
    rw [show (decB p).size + 1 + (j - ((decB p).size + 1)) = j by omega] at this
    rw [this]; exact bAt_dec q _ (by omega))
  rw [Nat.add_zero] at s2
  rw [s2, splF, eR]; rfl
theorem neg_dec (n : Int) (hn : -1000000000 ≤ n ∧ n ≤ 1000000000) : (decide (0 < (decB n).size) && (bAt (decB n) 0 == 45)) = decide (n < 0) := by
  by_cases h : n < 0
  · rw [decide_eq_true h, decB_neg h]
    have h1 : bAt ((⟨[45].toArray⟩ : ByteArray) ++ decB (n.natAbs : Int)) 0 = 45 := by rw [bAt_left _ _ _ (by show 0 < 1; omega)]; rfl
    have h2 : 0 < ((⟨[45].toArray⟩ : ByteArray) ++ decB (n.natAbs : Int)).size := by rw [ByteArray.size_append, ba_size]; show 0 < 1 + _; omega
    rw [h1, decide_eq_true h2]; rfl
  · obtain ⟨u, rfl⟩ := Int.eq_ofNat_of_zero_le (show 0 ≤ n by omega)
    obtain ⟨_, f2, f3, _, _⟩ := decB_facts u (by omega)
    have h3 : isDig (bAt (decB (u : Int)) 0) = true := by
      cases hd : isDig (bAt (decB (u : Int)) 0) with
      | true => rfl
      | false => rw [nOk_false hd _ f3] at f2; cases f2
    unfold isDig at h3
    simp only [Bool.and_eq_true, decide_eq_true_eq] at h3
    have h4 : (bAt (decB (u : Int)) 0 == 45) = false := by rw [beq_eq_false_iff_ne]; omega
    rw [h4, decide_eq_false h]; simp
theorem spec_reads {p q : Int} (h : frOk p q = true) : rdP (frT p q) = p ∧ rdQ (frT p q) = q ∧ whB (tpS (frT p q)) = true ∧ rd2 (frT p q) = true := by
  have hb := frOk_bd h
  have hw0 : w0S (frT p q) = decB p := by
    unfold w0S frT
    split
    · rw [split_one]; rfl
    · rw [split_two]; rfl
  have hneg : negS (frT p q) = decide (p < 0) := by unfold negS; rw [hw0]; exact neg_dec p hb.1
  have htop : tpS (frT p q) = decB (p.natAbs : Int) := by
    unfold tpS
    rw [hneg, hw0]
    by_cases hp : p < 0
    · rw [if_pos (decide_eq_true hp), decB_neg hp]
      exact ext_right ⟨[45].toArray⟩ _
    · rw [if_neg (by simpa using hp), show ((p.natAbs : Nat) : Int) = p by omega]
  have hwt := wh_dec (p.natAbs : Int) (by omega) (by omega)
  have hP : rdP (frT p q) = p := by
    unfold rdP
    rw [hneg, htop, hwt.1]
    by_cases hp : p < 0
    · rw [if_pos (decide_eq_true hp)]; omega
    · rw [if_neg (by simpa using hp)]; omega
  have hwq := wh_dec q (by omega) (by omega)
  refine ⟨hP, ?_, by rw [htop]; exact hwt.2, ?_⟩
  · unfold rdQ w1S
    by_cases h1 : q = 1
    · subst h1
      have e : frT p 1 = decB p := by unfold frT; rw [if_pos rfl]
      rw [e, split_one]; rfl
    · have e : frT p q = decB p ++ slashB ++ decB q := by unfold frT; rw [if_neg h1]
      rw [e, split_two]
      exact hwq.1
  · unfold rd2 w1S
    by_cases h1 : q = 1
    · subst h1
      have e : frT p 1 = decB p := by unfold frT; rw [if_pos rfl]
      rw [e, split_one]; rfl
    · have e : frT p q = decB p ++ slashB ++ decB q := by unfold frT; rw [if_neg h1]
      rw [e, split_two]
      exact hwq.2
end Go.Proofs.YtlglgcmpeabdnaaGreatDoorAi
end

section
/- Contracts: the pairs of a graph. -/
namespace Go.Proofs.YtlglgcmpeabdnaaGreatDoorAi
open Go Go.RowKit
set_option linter.unusedVariables false
set_option linter.unusedSimpArgs false
set_option maxRecDepth 20000

def prE (e : Int) (j k : Nat) : List Fr := ((List.range k).filter fun (i : Nat) => hasB e i j).map fun (i : Nat) => ⟨(i : Int), (j : Int)⟩
theorem prE_zero (e : Int) (j : Nat) : prE e j 0 = [] := rfl
theorem prE_true {e : Int} {j k : Nat} (h : hasB e k j = true) : prE e j (k + 1) = prE e j k ++ [⟨(k : Int), (j : Int)⟩] := by
  unfold prE; rw [List.range_succ, List.filter_append, List.map_append]; simp [h]
theorem prE_false {e : Int} {j k : Nat} (h : hasB e k j = false) : prE e j (k + 1) = prE e j k := by
  unfold prE; rw [List.range_succ, List.filter_append, List.map_append]; simp [h]
def pairsE (e : Int) : Nat → List Fr
  | 0 => []
  | j + 1 => pairsE e j ++ prE e j j
theorem prE_len (e : Int) (j k : Nat) : (prE e j k).length ≤ k := by
  unfold prE; rw [List.length_map]; exact Nat.le_trans (List.length_filter_le _ _) (by simp)
theorem pairsE_len (e : Int) : ∀ j, (pairsE e j).length ≤ j * j
  | 0 => Nat.le_refl _
  | j + 1 => by
    have h1 := pairsE_len e j
    have h2 := prE_len e j j
    have h3 : (j + 1) * (j + 1) = j * j + j + j + 1 := by rw [Nat.add_mul, Nat.mul_add]; omega
    rw [pairsE, List.length_append, h3]; omega
def lvE (N : Nat) (L : List Fr) : AV := if L = [] then .sl [] true else .ref N 2 0 L.length .full
def obE (L : List Fr) : List (Option (List AV)) := if L = [] then [] else [some (flatA (frsA L))]
theorem lvE_nil (N : Nat) : lvE N [] = .sl [] true := rfl
theorem obE_nil : obE [] = [] := rfl
theorem lvE_cons {N : Nat} {L : List Fr} (h : L ≠ []) : lvE N L = .ref N 2 0 L.length .full := if_neg h
theorem obE_cons {L : List Fr} (h : L ≠ []) : obE L = [some (flatA (frsA L))] := if_neg h
theorem frE_snoc (L : List Fr) (p q : Int) : flatA (frsA L) ++ [.int .i64 p, .int .i64 q] = flatA (frsA (L ++ [⟨p, q⟩])) := by
  rw [flatA_append]; rfl
theorem obE_inj (f : Nat → Nat) (L : List Fr) : injB f (obE L).length = true := by
  by_cases hL : L = []
  · rw [hL]; rfl
  · rw [obE_cons hL]; rfl
theorem lvE_lt (N : Nat) (L : List Fr) : AV.lt ((obE L).length + N) (lvE N L) = true := by
  by_cases hL : L = []
  · rw [hL, lvE_nil]; rfl
  · rw [obE_cons hL, lvE_cons hL]; simp
theorem lvE_lt0 (L : List Fr) : AV.lt (obE L).length (lvE 0 L) = true := lvE_lt 0 L
def pairsR (e : Int) (n : Nat) : AV × List (Option (List AV)) := (lvE 0 (pairsE e n), obE (pairsE e n))
noncomputable def sp_edges : List AV → Option (AV × List (Option (List AV))) := pf (ι := (Nat) × (Int)) (α := AV × List (Option (List AV))) (fun ⟨n, e⟩ => n ≤ 5 ∧ 0 ≤ e ∧ e ≤ 4294967295) (fun ⟨n, e⟩ => [.agg [.int .i64 n, .int .u32 e]]) (fun ⟨n, e⟩ => pairsR e n)
theorem sp_edges_eq (n : Nat) (e : Int) (h : n ≤ 5 ∧ 0 ≤ e ∧ e ≤ 4294967295) : sp_edges [.agg [.int .i64 n, .int .u32 e]] = some (pairsR e n) := by
  unfold sp_edges
  exact pf_eq (ι := (Nat) × (Int)) (α := AV × List (Option (List AV))) (n, e) h (by rintro ⟨n', e'⟩ _ e; simp_all [Int.natCast_inj])
def eoSt (n : Nat) (e : Int) (j : Nat) : St := ⟨tl [(1, .ptr 0 0), (3, lvE 1 (pairsE e j)), (8, .int .i64 n), (9, .int .i64 j)], ⟨some [.int .i64 n, .int .u32 e] :: obE (pairsE e j)⟩⟩
def eiSt (n : Nat) (e : Int) (j : Nat) (i : Nat) : St := ⟨tl [(1, .ptr 0 0), (3, lvE 1 (pairsE e j ++ prE e j i)), (4, .int .i64 j), (8, .int .i64 n), (9, .int .i64 j), (12, .int .i64 j), (13, .int .i64 i)], ⟨some [.int .i64 n, .int .u32 e] :: obE (pairsE e j ++ prE e j i)⟩⟩
theorem n_impl_Graph_edges : QN PP 131 sp_edges := by
  refine QN_pf (fun i h => ?_) fun i h => ?_
  · obtain ⟨n, e⟩ := i; first | rfl | simp
  obtain ⟨n, e⟩ := i
  replace h : n ≤ 5 ∧ 0 ≤ e ∧ e ≤ 4294967295 := h
  show T PP 131 [.agg [.int .i64 n, .int .u32 e]] .nil fun r' A' => r' = ((pairsR e n : AV × List (Option (List AV)))).1 ∧ A' = ⟨((pairsR e n : AV × List (Option (List AV)))).2⟩
  unfold pairsR
  refine H_code (Quiet.q1 q_impl_Graph_has Quiet.nil) hmix k_impl_Graph_edges rfl (fun _ => 1) (by simp [AHeap.n, AHeap.nil]) (by intro b hb; simp [AHeap.n, AHeap.nil] at hb <;> subst hb <;> rfl) (obE_inj _ _) (lvE_lt0 _) ?_
  simp -dsimp -implicitDefEqProofs [c_impl_Graph_edges, r_impl_Graph_edges]
  refine wpLoop_st (eoSt n e) (fun j => j ≤ n) (fun j => n - j) 0 (by omega) (Sub.keep (by simp [eoSt]) (by simp [hsub, eoSt, pairsE, obE_nil]) (by simp [eoSt, pairsE, lvE_nil])) ?_
  intro j hj
  simp -dsimp -implicitDefEqProofs [eoSt]
  refine brW_of (fun h => ?_) (fun h => ?_) <;> simp only [decide_eq_true_eq, decide_eq_false_iff_not] at h
  · have hwx := wrapNat (i := j) (by omega)
    have hul := pairsE_len e j
    have hjj : j * j ≤ 16 := Nat.mul_le_mul (by omega : j ≤ 4) (by omega : j ≤ 4)
    simp -dsimp -implicitDefEqProofs
    refine wpLoop_st (eiSt n e j) (fun i => i ≤ j) (fun i => j - i) 0 (by omega) (Sub.keep (by simp [eiSt, prE_zero]) (by by_cases hL : pairsE e j = [] <;> simp [hsub, eiSt, prE_zero, hL, obE_nil, obE_cons]) (by simp [eiSt, prE_zero, lvE_lt])) ?_
    intro i hi
    have hrl := prE_len e j i
    simp -dsimp -implicitDefEqProofs [eiSt]
    refine brW_of (fun h2 => ?_) (fun h2 => ?_) <;> simp only [decide_eq_true_eq, decide_eq_false_iff_not] at h2
    · have hwi := wrapNat (i := i) (by omega)
      have hb := sp_has_eq n e i j ⟨⟨by omega, by omega⟩, by unfold vx; omega⟩
      cases hv : hasB e i j with
      | true =>
        have e1 := prE_true (e := e) (j := j) (k := i) hv
        have e2 := frE_snoc (pairsE e j ++ prE e j i) i j
        have e4 : pairsE e j ++ prE e j (i + 1) = (pairsE e j ++ prE e j i) ++ [⟨(i : Int), (j : Int)⟩] := by rw [e1, List.append_assoc]
        have hLl : (pairsE e j ++ prE e j i).length ≤ 20 := by rw [List.length_append]; omega
        rw [hv] at hb
        by_cases hL : pairsE e j ++ prE e j i = []
        · rw [hL] at e4
          have l1 : 1 * 17 ≤ mostBytes := by decide
          rw [hL]
          simp -dsimp -implicitDefEqProofs [hb, hwi, lvE_nil, obE_nil, l1]
          exact .mk (i + 1) (by omega) (by omega) (Sub.mk' (fun b => if b = 1 then 2 else b) (by simp) (by intro b hb; simp at hb <;> omega) (by show injB _ (some _ :: obE (pairsE e j ++ prE e j (i + 1))).length = true; rw [e4, obE_cons (by simp)]; rfl) (by simp [hsub, eiSt, e4, obE, flatA_cons]) (by simp [eiSt, e4, lvE, obE, hwi]))
        · generalize hL2 : pairsE e j ++ prE e j (i + 1) = L2 at *
          generalize pairsE e j ++ prE e j i = L at *
          have l1 : (L.length + 1) * 17 ≤ mostBytes := by simp only [mostBytes]; omega
          have l2 : ¬ ((L.length + 1) * 2 ≤ L.length * 2) := by omega
          have l3 : (flatA (frsA L)).take (L.length * 2) = flatA (frsA L) := List.take_of_length_le (by simp)
          have e5 : L2 ≠ [] := by rw [e4]; simp
          simp -dsimp -implicitDefEqProofs [hb, hwi, l1, l2, l3, e2, lvE_cons hL, obE_cons hL]
          exact .mk (i + 1) (by omega) (by omega) (Sub.mk' (fun b => if b = 1 then 3 else b) (by simp) (by intro b hb; simp at hb <;> omega) (by show injB _ (some _ :: obE (pairsE e j ++ prE e j (i + 1))).length = true; rw [hL2, obE_cons e5]; rfl) (by simp [hsub, eiSt, hL2, e4, obE_cons]) (by simp [eiSt, hL2, e4, lvE_cons, obE_cons, hwi]))
      | false =>
        have e1 := prE_false (e := e) (j := j) (k := i) hv
        rw [hv] at hb
        simp -dsimp -implicitDefEqProofs [hb, hwi]
        exact .mk (i + 1) (by omega) (by omega) (Sub.keep (by simp [eiSt]) (by by_cases hL : pairsE e j ++ prE e j i = [] <;> simp [hsub, eiSt, e1, hL, obE_nil, obE_cons]) (by simp [eiSt, e1, hwi, lvE_lt]))
    · obtain rfl : i = j := by omega
      simp -dsimp -implicitDefEqProofs [hwx]
      exact .mk (i + 1) (by omega) (by omega) (Sub.keep (by simp [eoSt]) (by by_cases hL : pairsE e i ++ prE e i i = [] <;> simp [hsub, eoSt, pairsE, hL, obE_nil, obE_cons]) (by simp [eoSt, pairsE, hwx, lvE_lt]))
  · obtain rfl : j = n := by omega
    by_cases hL : pairsE e j = []
    · simp -dsimp -implicitDefEqProofs [hsub, hL, lvE_nil, obE_nil]
    · simp -dsimp -implicitDefEqProofs [hsub, lvE_cons hL, obE_cons hL]
def soSt (n : Nat) (e : Int) (j : Nat) : St := ⟨tl [(1, .ptr 0 0), (3, lvE 1 (pairsE e (j + 1))), (4, .int .i64 ((j : Int) + 1))], ⟨some [.int .i64 n, .int .u32 e] :: obE (pairsE e (j + 1))⟩⟩
def siSt (n : Nat) (e : Int) (j : Nat) (i : Nat) : St := ⟨tl [(1, .ptr 0 0), (3, lvE 1 (pairsE e (j + 1) ++ prE e (j + 1) i)), (4, .int .i64 ((j : Int) + 1)), (5, .int .i64 i)], ⟨some [.int .i64 n, .int .u32 e] :: obE (pairsE e (j + 1) ++ prE e (j + 1) i)⟩⟩
theorem n_spec_l01Pairs : QN PP 120 sp_edges := by
  refine QN_pf (fun i h => ?_) fun i h => ?_
  · obtain ⟨n, e⟩ := i; first | rfl | simp
  obtain ⟨n, e⟩ := i
  replace h : n ≤ 5 ∧ 0 ≤ e ∧ e ≤ 4294967295 := h
  show T PP 120 [.agg [.int .i64 n, .int .u32 e]] .nil fun r' A' => r' = ((pairsR e n : AV × List (Option (List AV)))).1 ∧ A' = ⟨((pairsR e n : AV × List (Option (List AV)))).2⟩
  unfold pairsR
  refine H_code (Quiet.q1 q_spec_l01Joined Quiet.nil) hmix k_spec_l01Pairs rfl (fun _ => 1) (by simp [AHeap.n, AHeap.nil]) (by intro b hb; simp [AHeap.n, AHeap.nil] at hb <;> subst hb <;> rfl) (obE_inj _ _) (lvE_lt0 _) ?_
  have p1 : pairsE e 1 = [] := rfl
  simp -dsimp -implicitDefEqProofs [c_spec_l01Pairs, r_spec_l01Pairs]
  refine wpLoop_st (soSt n e) (fun j => j = 0 ∨ j + 1 ≤ n) (fun j => n - j) 0 (.inl rfl) (Sub.keep (by simp [soSt]) (by simp [hsub, soSt, p1, obE_nil]) (by simp [soSt, p1, lvE_nil])) ?_
  intro j hj
  simp -dsimp -implicitDefEqProofs [soSt]
  refine brW_of (fun h => ?_) (fun h => ?_) <;> simp only [decide_eq_true_eq, decide_eq_false_iff_not] at h
  · have hwx : IntKind.wrap .i64 ((j : Int) + 1 + 1) = (j : Int) + 1 + 1 := wrapI64 (by omega) (by omega)
    have hul := pairsE_len e (j + 1)
    have hjj : (j + 1) * (j + 1) ≤ 16 := Nat.mul_le_mul (by omega : j + 1 ≤ 4) (by omega : j + 1 ≤ 4)
    simp -dsimp -implicitDefEqProofs
    refine wpLoop_st (siSt n e j) (fun i => i ≤ j + 1) (fun i => j + 1 - i) 0 (by omega) (Sub.keep (by simp [siSt, prE_zero]) (by by_cases hL : pairsE e (j + 1) = [] <;> simp [hsub, siSt, prE_zero, hL, obE_nil, obE_cons]) (by simp [siSt, prE_zero, lvE_lt])) ?_
    intro i hi
    have hrl := prE_len e (j + 1) i
    simp -dsimp -implicitDefEqProofs [siSt]
    refine brW_of (fun h2 => ?_) (fun h2 => ?_) <;> simp only [decide_eq_true_eq, decide_eq_false_iff_not] at h2
    · have hwi := wrapNat (i := i) (by omega)
      have hb := sp_l01Joined_eq n e i ((j : Int) + 1) ⟨⟨by omega, by omega⟩, ⟨by omega, by omega⟩, by omega, by omega⟩
      have hne : decide ((i : Int) ≠ (j : Int) + 1) = true := decide_eq_true (by omega)
      cases hv : hasB e i ((j + 1 : Nat) : Int) with
      | true =>
        have hv' : joinedB e i ((j : Int) + 1) = true := by unfold joinedB; rw [hne]; exact hv
        have e1 := prE_true (e := e) (j := j + 1) (k := i) hv
        have e2 := frE_snoc (pairsE e (j + 1) ++ prE e (j + 1) i) i ((j : Int) + 1)
        have e4 : pairsE e (j + 1) ++ prE e (j + 1) (i + 1) = (pairsE e (j + 1) ++ prE e (j + 1) i) ++ [⟨(i : Int), (j : Int) + 1⟩] := by rw [e1, List.append_assoc]; rfl
        have hLl : (pairsE e (j + 1) ++ prE e (j + 1) i).length ≤ 20 := by rw [List.length_append]; omega
        rw [hv'] at hb
        by_cases hL : pairsE e (j + 1) ++ prE e (j + 1) i = []
        · rw [hL] at e4
          have l1 : 1 * 17 ≤ mostBytes := by decide
          rw [hL]
          simp -dsimp -implicitDefEqProofs [hb, hwi, lvE_nil, obE_nil, l1]
          exact .mk (i + 1) (by omega) (by omega) (Sub.mk' (fun b => if b = 1 then 2 else b) (by simp) (by intro b hb; simp at hb <;> omega) (by show injB _ (some _ :: obE (pairsE e (j + 1) ++ prE e (j + 1) (i + 1))).length = true; rw [e4, obE_cons (by simp)]; rfl) (by simp [hsub, siSt, e4, obE, flatA_cons]) (by simp [siSt, e4, lvE, obE, hwi]))
        · generalize hL2 : pairsE e (j + 1) ++ prE e (j + 1) (i + 1) = L2 at *
          generalize pairsE e (j + 1) ++ prE e (j + 1) i = L at *
          have l1 : (L.length + 1) * 17 ≤ mostBytes := by simp only [mostBytes]; omega
          have l2 : ¬ ((L.length + 1) * 2 ≤ L.length * 2) := by omega
          have l3 : (flatA (frsA L)).take (L.length * 2) = flatA (frsA L) := List.take_of_length_le (by simp)
          have e5 : L2 ≠ [] := by rw [e4]; simp
          simp -dsimp -implicitDefEqProofs [hb, hwi, l1, l2, l3, e2, lvE_cons hL, obE_cons hL]
          exact .mk (i + 1) (by omega) (by omega) (Sub.mk' (fun b => if b = 1 then 3 else b) (by simp) (by intro b hb; simp at hb <;> omega) (by show injB _ (some _ :: obE (pairsE e (j + 1) ++ prE e (j + 1) (i + 1))).length = true; rw [hL2, obE_cons e5]; rfl) (by simp [hsub, siSt, hL2, e4, obE_cons]) (by simp [siSt, hL2, e4, lvE_cons, obE_cons, hwi]))
      | false =>
        have hv' : joinedB e i ((j : Int) + 1) = false := by unfold joinedB; rw [hne]; exact hv
        have e1 := prE_false (e := e) (j := j + 1) (k := i) hv
        rw [hv'] at hb
        simp -dsimp -implicitDefEqProofs [hb, hwi]
        exact .mk (i + 1) (by omega) (by omega) (Sub.keep (by simp [siSt]) (by by_cases hL : pairsE e (j + 1) ++ prE e (j + 1) i = [] <;> simp [hsub, siSt, e1, hL, obE_nil, obE_cons]) (by simp [siSt, e1, hwi, lvE_lt]))
    · obtain rfl : i = j + 1 := by omega
      have e6 : pairsE e (j + 1) ++ prE e (j + 1) (j + 1) = pairsE e (j + 1 + 1) := rfl
      rw [e6]
      simp -dsimp -implicitDefEqProofs [hwx]
      exact .mk (j + 1) (by omega) (by omega) (Sub.keep (by simp [soSt]) (by by_cases hL : pairsE e (j + 1 + 1) = [] <;> simp [hsub, soSt, hL, obE_nil, obE_cons]) (by simp [soSt, hwx, lvE_lt]))
  · have e7 : pairsE e (j + 1) = pairsE e n := by
      rcases hj with rfl | hj
      · have : n = 0 ∨ n = 1 := by omega
        rcases this with rfl | rfl <;> rfl
      · rw [show j + 1 = n by omega]
    rw [e7]
    by_cases hL : pairsE e n = []
    · simp -dsimp -implicitDefEqProofs [hsub, hL, lvE_nil, obE_nil]
    · simp -dsimp -implicitDefEqProofs [hsub, lvE_cons hL, obE_cons hL]
end Go.Proofs.YtlglgcmpeabdnaaGreatDoorAi
end

section
/- Contracts and laws: GraphText, FlagText. -/
namespace Go.Proofs.YtlglgcmpeabdnaaGreatDoorAi
open Go Go.RowKit
set_option linter.unusedVariables false
set_option linter.unusedSimpArgs false
set_option maxRecDepth 20000

theorem getF0 (l : List Fr) (i : Nat) (h : i < l.length) (h2 : i * 2 < (flatA (frsA l)).length) : (flatA (frsA l))[i * 2] = .int .i64 l[i].p := by
  have := get_fr0 l i h
  rw [List.getElem?_eq_getElem h2] at this
  exact Option.some.inj this
theorem getF1 (l : List Fr) (i : Nat) (h : i < l.length) (h2 : i * 2 + 1 < (flatA (frsA l)).length) : (flatA (frsA l))[i * 2 + 1] = .int .i64 l[i].q := by
  have := get_fr1 l i h
  rw [List.getElem?_eq_getElem h2] at this
  exact Option.some.inj this
def sepB : ByteArray := ⟨#[32]⟩
def dashB : ByteArray := ⟨#[45]⟩
def graphB : ByteArray := ⟨#[103, 114, 97, 112, 104, 32]⟩
def edgeT (p q : Int) : ByteArray := sepB ++ decB p ++ dashB ++ decB q
def edT (w : ByteArray) (L : List Fr) : ByteArray := L.foldl (fun w x => w ++ edgeT x.p x.q) w
theorem edT_snoc (w : ByteArray) (L : List Fr) (i : Nat) (h : i < L.length) : edT w (L.take (i + 1)) = edT w (L.take i) ++ edgeT L[i].p L[i].q := by
  rw [take_snoc L i h]; unfold edT; rw [List.foldl_append]; rfl
theorem edgeT_size {p q : Int} (hp : -9223372036854775808 ≤ p ∧ p ≤ 9223372036854775807) (hq : -9223372036854775808 ≤ q ∧ q ≤ 9223372036854775807) : (edgeT p q).size ≤ 44 := by
  have h1 := decB_size p hp.1 hp.2
  have h2 := decB_size q hq.1 hq.2
  have h3 : sepB.size = 1 := rfl
  have h4 : dashB.size = 1 := rfl
  unfold edgeT
  simp only [ByteArray.size_append]
  omega
theorem edT_size (w : ByteArray) (L : List Fr) (hL : ∀ x ∈ L, (0 ≤ x.p ∧ x.p < 5) ∧ (0 ≤ x.q ∧ x.q < 5)) : (edT w L).size ≤ w.size + L.length * 44 := by
  induction L generalizing w with
  | nil => simp [edT]
  | cons x L ih =>
    have hx := hL x (List.mem_cons_self ..)
    have h1 := ih (w ++ edgeT x.p x.q) fun y hy => hL y (List.mem_cons_of_mem _ hy)
    have h2 := edgeT_size (p := x.p) (q := x.q) (by omega) (by omega)
    show (edT (w ++ edgeT x.p x.q) L).size ≤ _
    rw [ByteArray.size_append] at h1
    rw [List.length_cons]
    omega
theorem prE_in {e : Int} {j k : Nat} (hj : j < 5) (hk : k ≤ 5) : ∀ x ∈ prE e j k, (0 ≤ x.p ∧ x.p < 5) ∧ (0 ≤ x.q ∧ x.q < 5) := by
  intro x hx
  unfold prE at hx
  obtain ⟨i, hi, rfl⟩ := List.mem_map.1 hx
  have := List.mem_range.1 (List.mem_filter.1 hi).1
  simp only
  omega
theorem pairsE_in (e : Int) : ∀ (j : Nat), j ≤ 5 → ∀ x ∈ pairsE e j, (0 ≤ x.p ∧ x.p < 5) ∧ (0 ≤ x.q ∧ x.q < 5)
  | 0, _ => by intro x hx; cases hx
  | j + 1, hj => by
    intro x hx
    rw [pairsE] at hx
    rcases List.mem_append.1 hx with hx | hx
    · exact pairsE_in e j (by omega) x hx
    · exact prE_in (by omega) (by omega) x hx
def grT (e : Int) (n : Nat) : ByteArray := edT (graphB ++ decB n) (pairsE e n)
theorem grT_len {e : Int} {n : Nat} (h : n ≤ 5) : (pairsE e n).length ≤ 25 := Nat.le_trans (pairsE_len e n) (Nat.mul_le_mul h h)
theorem edT_take {e : Int} {n : Nat} (h : n ≤ 5) (i : Nat) : (edT (graphB ++ decB n) ((pairsE e n).take i)).size ≤ 1200 := by
  have h1 := edT_size (graphB ++ decB n) ((pairsE e n).take i) fun x hx => pairsE_in e n h x (List.mem_of_mem_take hx)
  have h2 := grT_len (e := e) h
  have h3 : ((pairsE e n).take i).length ≤ (pairsE e n).length := by rw [List.length_take]; omega
  have h4 := decB_size n (by omega) (by omega)
  have h5 : graphB.size = 6 := rfl
  rw [ByteArray.size_append] at h1
  omega
noncomputable def sp_graphTx : List AV → Option (AV) := pf (ι := (Nat) × (Int)) (α := AV) (fun ⟨n, e⟩ => n ≤ 5 ∧ 0 ≤ e ∧ e ≤ 4294967295) (fun ⟨n, e⟩ => [.agg [.int .i64 n, .int .u32 e]]) (fun ⟨n, e⟩ => .str (grT e n))
theorem sp_graphTx_eq (n : Nat) (e : Int) (h : n ≤ 5 ∧ 0 ≤ e ∧ e ≤ 4294967295) : sp_graphTx [.agg [.int .i64 n, .int .u32 e]] = some (.str (grT e n)) := by
  unfold sp_graphTx
  exact pf_eq (ι := (Nat) × (Int)) (α := AV) (n, e) h (by rintro ⟨n', e'⟩ _ e; simp_all [Int.natCast_inj])
theorem q_impl_Graph_text : QP PP 84 sp_graphTx := by
  refine QP_pf (fun i h => ?_) fun i h => ?_
  · obtain ⟨n, e⟩ := i; exact ⟨by first | rfl | simp, by first | rfl | simp⟩
  obtain ⟨n, e⟩ := i
  replace h : n ≤ 5 ∧ 0 ≤ e ∧ e ≤ 4294967295 := h
  refine P_code (Quiet.q1 q_impl_decimal (Quiet.e1 n_impl_Graph_edges.toE Quiet.nil)) hmix k_impl_Graph_text rfl ?_ ?_
  · first | rfl | simp
  show wpc 0 PP _ c_impl_Graph_text (initSt [.agg [.int .i64 n, .int .u32 e]] .nil) (endP r_impl_Graph_text (.str (grT e n)))
  have hd := sp_decimal_eq n (by omega)
  have hs := decB_size n (by omega) (by omega)
  have he := sp_edges_eq n e h
  have z0 : 6 + (decB n).size ≤ 9223372036854775807 := by omega
  have hin := pairsE_in e n h.1
  have hlen := grT_len (e := e) h.1
  unfold pairsR at he
  unfold grT
  by_cases hL : pairsE e n = []
  · rw [hL, lvE_nil, obE_nil] at he
    rw [hL]
    simp -dsimp -implicitDefEqProofs [c_impl_Graph_text, r_impl_Graph_text, hd, he, z0]
    refine wpLoop_st (fun (_ : Unit) => ⟨tl [(3, .str (graphB ++ decB n)), (11, .sl [] true), (12, .int .i64 0), (13, .int .i64 0)], ⟨[]⟩⟩) (fun _ => True) (fun _ => 0) () trivial (Sub.keep (by simp) (by simp [hsub]) (by simp [graphB])) ?_
    intro i hi
    simp -dsimp -implicitDefEqProofs [edT]
  · have ht := fun i => edT_take (e := e) h.1 i
    generalize pairsE e n = L at *
    rw [lvE_cons hL, obE_cons hL] at he
    simp -dsimp -implicitDefEqProofs [c_impl_Graph_text, r_impl_Graph_text, hd, he, z0]
    refine wpLoop_st (fun (i : Nat) => ⟨tl [(3, .str (edT (graphB ++ decB n) (L.take i))), (11, .ref 1 2 0 L.length .full), (12, .int .i64 L.length), (13, .int .i64 i)], ⟨[some [.int .i64 n, .int .u32 e], some (flatA (frsA L))]⟩⟩) (fun i => i ≤ L.length) (fun i => L.length - i) 0 (by omega) (Sub.keep (by simp) (by simp [hsub]) (by simp [graphB, edT])) ?_
    intro i hi
    simp -dsimp -implicitDefEqProofs
    refine brW_of (fun h2 => ?_) (fun h2 => ?_) <;> simp only [decide_eq_true_eq, decide_eq_false_iff_not] at h2
    · have hx : i < L.length := by omega
      have hwi := wrapNat (i := i) (by omega)
      have hm := hin L[i] (List.getElem_mem hx)
      have hp := sp_decimal_eq L[i].p (by omega)
      have hq := sp_decimal_eq L[i].q (by omega)
      have hes := edT_snoc (graphB ++ decB n) L i hx
      have ht1 := ht i
      have q0 := get_fr0 L i hx
      have q1 := get_fr1 L i hx
      have g0 := getF0 L i hx (by simp; omega)
      have g1 := getF1 L i hx (by simp; omega)
      have sp := decB_size L[i].p (by omega) (by omega)
      have sq := decB_size L[i].q (by omega) (by omega)
      have z1 : 1 + (decB L[i].p).size ≤ 9223372036854775807 := by omega
      have z2 : 1 + (decB L[i].p).size + 1 ≤ 9223372036854775807 := by omega
      have z3 : 1 + (decB L[i].p).size + 1 + (decB L[i].q).size ≤ 9223372036854775807 := by omega
      have z4 : (edT (graphB ++ decB n) (L.take i)).size + (1 + (decB L[i].p).size + 1 + (decB L[i].q).size) ≤ 9223372036854775807 := by omega
      simp -dsimp -implicitDefEqProofs [hx, hp, hq, hwi, g0, g1, q0, q1, z1, z2, z3, z4]
      exact .mk (i + 1) (by omega) (by omega) (Sub.keep (by simp) (by simp [hsub]) (by simp [hes, edgeT, sepB, dashB, hwi]))
    · obtain rfl : i = L.length := by omega
      simp -dsimp -implicitDefEqProofs
theorem graphOk_in {n e : Int} (h : graphOk n e = true) : 0 ≤ n ∧ n ≤ 5 := by
  unfold graphOk at h
  exact (of_decide_eq_true h).1
def graphT (n e : Int) : ByteArray := if graphOk n e = true then grT e n.toNat else noB
noncomputable def sp_graphText : List AV → Option (AV) := pf (ι := (Int) × (Int)) (α := AV) (fun ⟨n, e⟩ => 0 ≤ e ∧ e ≤ 4294967295) (fun ⟨n, e⟩ => [.agg [.int .i64 n, .int .u32 e]]) (fun ⟨n, e⟩ => .str (graphT n e))
theorem sp_graphText_eq (n e : Int) (h : 0 ≤ e ∧ e ≤ 4294967295) : sp_graphText [.agg [.int .i64 n, .int .u32 e]] = some (.str (graphT n e)) := by
  unfold sp_graphText
  exact pf_eq (ι := (Int) × (Int)) (α := AV) (n, e) h (by rintro ⟨n', e'⟩ _ e; simp_all [Int.natCast_inj])
theorem q_spec_GraphText : QP PP 68 sp_graphText := by
  refine QP_pf (fun i h => ?_) fun i h => ?_
  · obtain ⟨n, e⟩ := i; exact ⟨by first | rfl | simp, by first | rfl | simp⟩
  obtain ⟨n, e⟩ := i
  replace h : 0 ≤ e ∧ e ≤ 4294967295 := h
  refine P_code (Quiet.q1 q_spec_l01Ok (Quiet.q1 q_spec_Decimal (Quiet.e1 n_spec_l01Pairs.toE Quiet.nil))) hmix k_spec_GraphText rfl ?_ ?_
  · first | rfl | simp
  show wpc 0 PP _ c_spec_GraphText (initSt [.agg [.int .i64 n, .int .u32 e]] .nil) (endP r_spec_GraphText (.str (graphT n e)))
  have ho := sp_graphOk_eq n e h
  cases hf : graphOk n e with
  | false =>
    rw [hf] at ho
    simp -dsimp -implicitDefEqProofs [c_spec_GraphText, r_spec_GraphText, ho, hf, graphT, noB]
  | true =>
    rw [hf] at ho
    have hn := graphOk_in hf
    obtain ⟨m, rfl⟩ := Int.eq_ofNat_of_zero_le hn.1
    have hm5 : m ≤ 5 := by omega
    have hd := sp_decS_eq m (by omega)
    have hs := decB_size m (by omega) (by omega)
    have he := sp_edges_eq m e ⟨hm5, h⟩
    have z0 : 6 + (decB m).size ≤ 9223372036854775807 := by omega
    have hin := pairsE_in e m hm5
    have hlen := grT_len (e := e) hm5
    unfold pairsR at he
    unfold graphT
    rw [if_pos hf, Int.toNat_natCast]
    unfold grT
    by_cases hL : pairsE e m = []
    · rw [hL, lvE_nil, obE_nil] at he
      rw [hL]
      simp -dsimp -implicitDefEqProofs [c_spec_GraphText, r_spec_GraphText, ho, hd, he, z0]
      refine wpLoop_st (fun (_ : Unit) => ⟨tl [(3, .str (graphB ++ decB m)), (4, .sl [] true), (5, .int .i64 0)], ⟨[]⟩⟩) (fun _ => True) (fun _ => 0) () trivial (Sub.keep (by simp) (by simp [hsub]) (by simp [graphB])) ?_
      intro i hi
      simp -dsimp -implicitDefEqProofs [edT]
    · have ht := fun i => edT_take (e := e) hm5 i
      generalize pairsE e m = L at *
      rw [lvE_cons hL, obE_cons hL] at he
      simp -dsimp -implicitDefEqProofs [c_spec_GraphText, r_spec_GraphText, ho, hd, he, z0]
      refine wpLoop_st (fun (i : Nat) => ⟨tl [(3, .str (edT (graphB ++ decB m) (L.take i))), (4, .ref 1 2 0 L.length .full), (5, .int .i64 i)], ⟨[some [.int .i64 m, .int .u32 e], some (flatA (frsA L))]⟩⟩) (fun i => i ≤ L.length) (fun i => L.length - i) 0 (by omega) (Sub.keep (by simp) (by simp [hsub]) (by simp [graphB, edT])) ?_
      intro i hi
      simp -dsimp -implicitDefEqProofs
      refine brW_of (fun h2 => ?_) (fun h2 => ?_) <;> simp only [decide_eq_true_eq, decide_eq_false_iff_not] at h2
      · have hx : i < L.length := by omega
        have hwi := wrapNat (i := i) (by omega)
        have hmm := hin L[i] (List.getElem_mem hx)
        have hp := sp_decS_eq L[i].p (by omega)
        have hq := sp_decS_eq L[i].q (by omega)
        have hes := edT_snoc (graphB ++ decB m) L i hx
        have ht1 := ht i
        have q0 := get_fr0 L i hx
        have q1 := get_fr1 L i hx
        have g0 := getF0 L i hx (by simp; omega)
        have g1 := getF1 L i hx (by simp; omega)
        have sp := decB_size L[i].p (by omega) (by omega)
        have sq := decB_size L[i].q (by omega) (by omega)
        have z1 : 1 + (decB L[i].p).size ≤ 9223372036854775807 := by omega
        have z2 : 1 + (decB L[i].p).size + 1 ≤ 9223372036854775807 := by omega
        have z3 : 1 + (decB L[i].p).size + 1 + (decB L[i].q).size ≤ 9223372036854775807 := by omega
        have z4 : (edT (graphB ++ decB m) (L.take i)).size + (1 + (decB L[i].p).size + 1 + (decB L[i].q).size) ≤ 9223372036854775807 := by omega
        simp -dsimp -implicitDefEqProofs [hx, hp, hq, hwi, g0, g1, q0, q1, z1, z2, z3, z4]
        exact .mk (i + 1) (by omega) (by omega) (Sub.keep (by simp) (by simp [hsub]) (by simp [hes, edgeT, sepB, dashB, hwi]))
      · obtain rfl : i = L.length := by omega
        simp -dsimp -implicitDefEqProofs
end Go.Proofs.YtlglgcmpeabdnaaGreatDoorAi
end

section
/- MADE BY PROGRAM (wip/tools/gen.py): the abstract code of functions. -/
namespace Go.Proofs.YtlglgcmpeabdnaaGreatDoorAi
open Go AC AOp Opd
set_option linter.unusedVariables false
set_option maxRecDepth 100000
def c_impl_isPair : AC := seq (reg [⟨(some 6), mv (c (.bool false)), none⟩]) (seq (reg [⟨(some 7), mv (t 1), none⟩, ⟨(some 8), mv (t 0), none⟩, ⟨(some 9), bin .sub (t 8) (c (.int .i64 1)), none⟩, ⟨(some 10), callq (c (.fn 37 [])) [t 7, c (.int .i64 0), t 9], none⟩, ⟨(some 11), mv (t 10), none⟩, ⟨(some 12), mv (t 2), some (11, true)⟩, ⟨(some 13), mv (t 0), some (11, true)⟩, ⟨(some 14), bin .sub (t 13) (c (.int .i64 1)), some (11, true)⟩, ⟨(some 15), callq (c (.fn 37 [])) [t 12, c (.int .i64 0), t 14], some (11, true)⟩, ⟨(some 16), pick (t 11) (t 15) (c (.bool false)), none⟩, ⟨(some 17), mv (t 16), none⟩, ⟨(some 18), mv (t 1), some (17, true)⟩, ⟨(some 19), mv (t 2), some (17, true)⟩, ⟨(some 20), bin .neq (t 18) (t 19), some (17, true)⟩, ⟨(some 21), pick (t 17) (t 20) (c (.bool false)), none⟩, ⟨(some 6), mv (t 21), none⟩]) (ret))
def r_impl_isPair : List ARes := [.tmp 6]
theorem k_impl_isPair : acLin Go.Proofs.Tryz.prog 82 3 (inQ [37] []) [] = some (c_impl_isPair, r_impl_isPair) := by kernel_rfl
def c_impl_ReadGraph : AC := seq (reg [⟨(some 2), alloc [.int .i64 0, .int .u32 0], none⟩, ⟨(some 3), mv (c (.int .i64 0)), none⟩]) (seq (reg [⟨(some 20), mv (t 0), none⟩, ⟨(some 21), callq (c (.fn 80 [])) [t 20, c (.str ⟨#[103, 114, 97, 112, 104, 32]⟩)], none⟩, ⟨(some 19), mv (t 21), none⟩, ⟨(some 22), ext (t 19) 0, none⟩, ⟨(some 23), ext (t 19) 1, none⟩, ⟨(some 4), mv (t 22), none⟩, ⟨(some 5), mv (t 23), none⟩]) (seq (reg [⟨(some 24), mv (t 4), none⟩, ⟨(some 25), calle (c (.fn 32 [])) [t 24, c (.str ⟨#[32]⟩)] [], none⟩, ⟨(some 6), mv (t 25), none⟩]) (seq (reg [⟨(some 27), mv (t 6), none⟩, ⟨(some 28), iad 1 (t 27) (c (.int .i64 0)), none⟩, ⟨(some 29), ld (t 28) 1 false, none⟩, ⟨(some 30), callq (c (.fn 36 [])) [t 29], none⟩, ⟨(some 26), mv (t 30), none⟩, ⟨(some 31), ext (t 26) 0, none⟩, ⟨(some 32), ext (t 26) 1, none⟩, ⟨(some 7), mv (t 31), none⟩, ⟨(some 8), mv (t 32), none⟩]) (seq (seq (reg [⟨(some 33), mv (t 5), none⟩, ⟨(some 34), un .not (t 33), none⟩, ⟨(some 35), mv (t 34), none⟩, ⟨(some 36), mv (t 8), some (35, false)⟩, ⟨(some 37), un .not (t 36), some (35, false)⟩, ⟨(some 38), pick (t 35) (c (.bool true)) (t 37), none⟩, ⟨(some 39), mv (t 38), none⟩, ⟨(some 40), mv (t 7), some (39, false)⟩, ⟨(some 41), callq (c (.fn 81 [])) [t 40], some (39, false)⟩, ⟨(some 42), un .not (t 41), some (39, false)⟩, ⟨(some 43), pick (t 39) (c (.bool true)) (t 42), none⟩]) (cond (t 43) (seq (reg [⟨(some 44), bld [.int .i64 0, .int .u32 0] [], none⟩, ⟨none, st (t 2) 2 (t 44), none⟩, ⟨(some 3), mv (c (.int .i64 5)), none⟩]) (ret)) (skip))) (seq (reg [⟨(some 45), mv (t 7), none⟩, ⟨(some 46), bld [.int .i64 0, .int .u32 0] [(0, 1, t 45)], none⟩, ⟨(some 9), alloc [.int .i64 0, .int .u32 0], none⟩, ⟨none, st (t 9) 2 (t 46), none⟩]) (seq (seq (reg [⟨(some 47), mv (t 6), none⟩, ⟨(some 48), sli 1 (t 47) (some (c (.int .i64 1))) none none, none⟩, ⟨(some 49), len (t 48), none⟩, ⟨(some 50), mv (c (.int .i64 0)), none⟩]) (block 0 (loop (seq (reg [⟨(some 51), bin .lss (t 50) (t 49), none⟩]) (seq (cond (t 51) (skip) (exit 0)) (seq (block 1 (seq (reg [⟨(some 52), iad 1 (t 48) (t 50), none⟩, ⟨(some 53), ld (t 52) 1 false, none⟩, ⟨(some 11), mv (t 53), none⟩]) (seq (reg [⟨(some 55), mv (t 11), none⟩, ⟨(some 56), callq (c (.fn 59 [])) [t 55, c (.str ⟨#[45]⟩)], none⟩, ⟨(some 54), mv (t 56), none⟩, ⟨(some 57), ext (t 54) 0, none⟩, ⟨(some 58), ext (t 54) 1, none⟩, ⟨(some 59), ext (t 54) 2, none⟩, ⟨(some 12), mv (t 57), none⟩, ⟨(some 13), mv (t 58), none⟩, ⟨(some 14), mv (t 59), none⟩]) (seq (reg [⟨(some 61), mv (t 12), none⟩, ⟨(some 62), callq (c (.fn 36 [])) [t 61], none⟩, ⟨(some 60), mv (t 62), none⟩, ⟨(some 63), ext (t 60) 0, none⟩, ⟨(some 64), ext (t 60) 1, none⟩, ⟨(some 15), mv (t 63), none⟩, ⟨(some 16), mv (t 64), none⟩]) (seq (reg [⟨(some 66), mv (t 13), none⟩, ⟨(some 67), callq (c (.fn 36 [])) [t 66], none⟩, ⟨(some 65), mv (t 67), none⟩, ⟨(some 68), ext (t 65) 0, none⟩, ⟨(some 69), ext (t 65) 1, none⟩, ⟨(some 17), mv (t 68), none⟩, ⟨(some 18), mv (t 69), none⟩]) (seq (seq (reg [⟨(some 70), mv (t 16), none⟩, ⟨(some 71), un .not (t 70), none⟩, ⟨(some 72), mv (t 71), none⟩, ⟨(some 73), mv (t 18), some (72, false)⟩, ⟨(some 74), un .not (t 73), some (72, false)⟩, ⟨(some 75), pick (t 72) (c (.bool true)) (t 74), none⟩, ⟨(some 76), mv (t 75), none⟩, ⟨(some 77), mv (t 7), some (76, false)⟩, ⟨(some 78), mv (t 15), some (76, false)⟩, ⟨(some 79), mv (t 17), some (76, false)⟩, ⟨(some 80), callq (c (.fn 82 [])) [t 77, t 78, t 79], some (76, false)⟩, ⟨(some 81), un .not (t 80), some (76, false)⟩, ⟨(some 82), pick (t 76) (c (.bool true)) (t 81), none⟩]) (cond (t 82) (seq (reg [⟨(some 83), bld [.int .i64 0, .int .u32 0] [], none⟩, ⟨none, st (t 2) 2 (t 83), none⟩, ⟨(some 3), mv (c (.int .i64 5)), none⟩]) (ret)) (skip))) (reg [⟨(some 84), fad (t 9) 1, none⟩, ⟨(some 85), ld (t 84) 1 false, none⟩, ⟨(some 86), mv (t 15), none⟩, ⟨(some 87), mv (t 17), none⟩, ⟨(some 88), callq (c (.fn 83 [])) [t 86, t 87], none⟩, ⟨(some 89), bin .or (t 85) (t 88), none⟩, ⟨(some 90), fad (t 9) 1, none⟩, ⟨none, st (t 90) 1 (t 89), none⟩]))))))) (reg [⟨(some 91), bin .add (t 50) (c (.int .i64 1)), none⟩, ⟨(some 50), mv (t 91), none⟩]))))))) (seq (seq (reg [⟨(some 92), ld (t 9) 2 true, none⟩, ⟨(some 93), callq (c (.fn 84 [])) [t 92], none⟩, ⟨(some 94), mv (t 0), none⟩, ⟨(some 95), bin .neq (t 93) (t 94), none⟩]) (cond (t 95) (seq (reg [⟨(some 96), bld [.int .i64 0, .int .u32 0] [], none⟩, ⟨none, st (t 2) 2 (t 96), none⟩, ⟨(some 3), mv (c (.int .i64 5)), none⟩]) (ret)) (skip))) (seq (reg [⟨(some 97), ld (t 9) 2 true, none⟩, ⟨none, st (t 2) 2 (t 97), none⟩, ⟨(some 3), mv (c (.int .i64 0)), none⟩]) (ret)))))))))
def r_impl_ReadGraph : List ARes := [.cell 2 2 true, .tmp 3]
theorem k_impl_ReadGraph : acLin Go.Proofs.Tryz.prog 33 1 (inQ [36, 59, 80, 81, 82, 83, 84] [32]) [⟨false, none, [], [], none⟩, ⟨false, none, [], [], none⟩, ⟨false, none, [], [], none⟩, ⟨false, none, [], [], none⟩, ⟨false, none, [], [], none⟩, ⟨false, none, [], [], none⟩, ⟨false, none, [], [], none⟩, ⟨false, none, [], [], none⟩, ⟨false, none, [], [], none⟩, ⟨false, none, [], [], none⟩, ⟨false, none, [], [], none⟩, ⟨false, none, [], [], none⟩, ⟨false, none, [], [], none⟩, ⟨false, none, [], [], none⟩, ⟨false, none, [], [], none⟩, ⟨false, none, [], [], none⟩, ⟨false, none, [], [], none⟩, ⟨false, none, [], [], none⟩, ⟨false, some [0, 1, 2, 3, 4, 5, 6, 7], [], [], none⟩] = some (c_impl_ReadGraph, r_impl_ReadGraph) := by kernel_rfl
def c_spec_l01Pair : AC := seq (reg [⟨(some 6), mv (c (.bool false)), none⟩]) (seq (reg [⟨(some 7), mv (t 1), none⟩, ⟨(some 8), mv (t 0), none⟩, ⟨(some 9), bin .sub (t 8) (c (.int .i64 1)), none⟩, ⟨(some 10), callq (c (.fn 98 [])) [t 7, c (.int .i64 0), t 9], none⟩, ⟨(some 11), mv (t 10), none⟩, ⟨(some 12), mv (t 2), some (11, true)⟩, ⟨(some 13), mv (t 0), some (11, true)⟩, ⟨(some 14), bin .sub (t 13) (c (.int .i64 1)), some (11, true)⟩, ⟨(some 15), callq (c (.fn 98 [])) [t 12, c (.int .i64 0), t 14], some (11, true)⟩, ⟨(some 16), pick (t 11) (t 15) (c (.bool false)), none⟩, ⟨(some 17), mv (t 16), none⟩, ⟨(some 18), mv (t 1), some (17, true)⟩, ⟨(some 19), mv (t 2), some (17, true)⟩, ⟨(some 20), bin .neq (t 18) (t 19), some (17, true)⟩, ⟨(some 21), pick (t 17) (t 20) (c (.bool false)), none⟩, ⟨(some 6), mv (t 21), none⟩]) (ret))
def r_spec_l01Pair : List ARes := [.tmp 6]
theorem k_spec_l01Pair : acLin Go.Proofs.Tryz.prog 66 3 (inQ [98] []) [] = some (c_spec_l01Pair, r_spec_l01Pair) := by kernel_rfl
def c_spec_ReadGraph : AC := seq (reg [⟨(some 2), alloc [.int .i64 0, .int .u32 0], none⟩, ⟨(some 3), mv (c (.int .i64 0)), none⟩]) (seq (reg [⟨(some 14), mv (t 0), none⟩, ⟨(some 15), calle (c (.fn 26 [])) [t 14, c (.int .u8 32)] [], none⟩, ⟨(some 4), mv (t 15), none⟩]) (seq (seq (reg [⟨(some 16), mv (t 4), none⟩, ⟨(some 17), len (t 16), none⟩, ⟨(some 18), bin .lss (t 17) (c (.int .i64 2)), none⟩, ⟨(some 19), mv (t 18), none⟩, ⟨(some 20), mv (t 4), some (19, false)⟩, ⟨(some 21), iad 1 (t 20) (c (.int .i64 0)), some (19, false)⟩, ⟨(some 22), ld (t 21) 1 false, some (19, false)⟩, ⟨(some 23), bin .neq (t 22) (c (.str ⟨#[103, 114, 97, 112, 104]⟩)), some (19, false)⟩, ⟨(some 24), pick (t 19) (c (.bool true)) (t 23), none⟩]) (cond (t 24) (seq (reg [⟨(some 25), bld [.int .i64 0, .int .u32 0] [], none⟩, ⟨none, st (t 2) 2 (t 25), none⟩, ⟨(some 3), mv (c (.int .i64 5)), none⟩]) (ret)) (skip))) (seq (reg [⟨(some 27), mv (t 4), none⟩, ⟨(some 28), iad 1 (t 27) (c (.int .i64 1)), none⟩, ⟨(some 29), ld (t 28) 1 false, none⟩, ⟨(some 30), callq (c (.fn 28 [])) [t 29], none⟩, ⟨(some 26), mv (t 30), none⟩, ⟨(some 31), ext (t 26) 0, none⟩, ⟨(some 32), ext (t 26) 1, none⟩, ⟨(some 5), mv (t 31), none⟩, ⟨(some 6), mv (t 32), none⟩]) (seq (seq (reg [⟨(some 33), mv (t 6), none⟩, ⟨(some 34), un .not (t 33), none⟩, ⟨(some 35), mv (t 34), none⟩, ⟨(some 36), mv (t 5), some (35, false)⟩, ⟨(some 37), bin .gtr (t 36) (c (.int .i64 5)), some (35, false)⟩, ⟨(some 38), pick (t 35) (c (.bool true)) (t 37), none⟩]) (cond (t 38) (seq (reg [⟨(some 39), bld [.int .i64 0, .int .u32 0] [], none⟩, ⟨none, st (t 2) 2 (t 39), none⟩, ⟨(some 3), mv (c (.int .i64 5)), none⟩]) (ret)) (skip))) (seq (reg [⟨(some 40), mv (t 5), none⟩, ⟨(some 41), bld [.int .i64 0, .int .u32 0] [(0, 1, t 40)], none⟩, ⟨(some 7), alloc [.int .i64 0, .int .u32 0], none⟩, ⟨none, st (t 7) 2 (t 41), none⟩]) (seq (seq (reg [⟨(some 8), mv (c (.int .i64 2)), none⟩]) (block 0 (loop (seq (seq (reg [⟨(some 42), mv (t 8), none⟩, ⟨(some 43), mv (t 4), none⟩, ⟨(some 44), len (t 43), none⟩, ⟨(some 45), bin .lss (t 42) (t 44), none⟩]) (cond (t 45) (skip) (exit 0))) (seq (block 1 (seq (reg [⟨(some 48), mv (t 4), none⟩, ⟨(some 49), mv (t 8), none⟩, ⟨(some 50), iad 1 (t 48) (t 49), none⟩, ⟨(some 51), ld (t 50) 1 false, none⟩, ⟨(some 52), calle (c (.fn 26 [])) [t 51, c (.int .u8 45)] [], none⟩, ⟨(some 9), mv (t 52), none⟩]) (seq (seq (reg [⟨(some 53), mv (t 9), none⟩, ⟨(some 54), len (t 53), none⟩, ⟨(some 55), bin .neq (t 54) (c (.int .i64 2)), none⟩]) (cond (t 55) (seq (reg [⟨(some 56), bld [.int .i64 0, .int .u32 0] [], none⟩, ⟨none, st (t 2) 2 (t 56), none⟩, ⟨(some 3), mv (c (.int .i64 5)), none⟩]) (ret)) (skip))) (seq (reg [⟨(some 58), mv (t 9), none⟩, ⟨(some 59), iad 1 (t 58) (c (.int .i64 0)), none⟩, ⟨(some 60), ld (t 59) 1 false, none⟩, ⟨(some 61), callq (c (.fn 28 [])) [t 60], none⟩, ⟨(some 57), mv (t 61), none⟩, ⟨(some 62), ext (t 57) 0, none⟩, ⟨(some 63), ext (t 57) 1, none⟩, ⟨(some 10), mv (t 62), none⟩, ⟨(some 11), mv (t 63), none⟩]) (seq (reg [⟨(some 65), mv (t 9), none⟩, ⟨(some 66), iad 1 (t 65) (c (.int .i64 1)), none⟩, ⟨(some 67), ld (t 66) 1 false, none⟩, ⟨(some 68), callq (c (.fn 28 [])) [t 67], none⟩, ⟨(some 64), mv (t 68), none⟩, ⟨(some 69), ext (t 64) 0, none⟩, ⟨(some 70), ext (t 64) 1, none⟩, ⟨(some 12), mv (t 69), none⟩, ⟨(some 13), mv (t 70), none⟩]) (seq (seq (reg [⟨(some 71), mv (t 11), none⟩, ⟨(some 72), un .not (t 71), none⟩, ⟨(some 73), mv (t 72), none⟩, ⟨(some 74), mv (t 13), some (73, false)⟩, ⟨(some 75), un .not (t 74), some (73, false)⟩, ⟨(some 76), pick (t 73) (c (.bool true)) (t 75), none⟩, ⟨(some 77), mv (t 76), none⟩, ⟨(some 78), mv (t 5), some (77, false)⟩, ⟨(some 79), mv (t 10), some (77, false)⟩, ⟨(some 80), mv (t 12), some (77, false)⟩, ⟨(some 81), callq (c (.fn 66 [])) [t 78, t 79, t 80], some (77, false)⟩, ⟨(some 82), un .not (t 81), some (77, false)⟩, ⟨(some 83), pick (t 77) (c (.bool true)) (t 82), none⟩]) (cond (t 83) (seq (reg [⟨(some 84), bld [.int .i64 0, .int .u32 0] [], none⟩, ⟨none, st (t 2) 2 (t 84), none⟩, ⟨(some 3), mv (c (.int .i64 5)), none⟩]) (ret)) (skip))) (reg [⟨(some 85), fad (t 7) 1, none⟩, ⟨(some 86), ld (t 85) 1 false, none⟩, ⟨(some 87), mv (t 10), none⟩, ⟨(some 88), mv (t 12), none⟩, ⟨(some 89), callq (c (.fn 67 [])) [t 87, t 88], none⟩, ⟨(some 90), bin .or (t 86) (t 89), none⟩, ⟨(some 91), fad (t 7) 1, none⟩, ⟨none, st (t 91) 1 (t 90), none⟩]))))))) (reg [⟨(some 46), mv (t 8), none⟩, ⟨(some 47), bin .add (t 46) (c (.int .i64 1)), none⟩, ⟨(some 8), mv (t 47), none⟩])))))) (seq (seq (reg [⟨(some 92), ld (t 7) 2 true, none⟩, ⟨(some 93), callq (c (.fn 68 [])) [t 92], none⟩, ⟨(some 94), mv (t 0), none⟩, ⟨(some 95), bin .neq (t 93) (t 94), none⟩]) (cond (t 95) (seq (reg [⟨(some 96), bld [.int .i64 0, .int .u32 0] [], none⟩, ⟨none, st (t 2) 2 (t 96), none⟩, ⟨(some 3), mv (c (.int .i64 5)), none⟩]) (ret)) (skip))) (seq (reg [⟨(some 97), ld (t 7) 2 true, none⟩, ⟨none, st (t 2) 2 (t 97), none⟩, ⟨(some 3), mv (c (.int .i64 0)), none⟩]) (ret)))))))))
def r_spec_ReadGraph : List ARes := [.cell 2 2 true, .tmp 3]
theorem k_spec_ReadGraph : acLin Go.Proofs.Tryz.prog 27 1 (inQ [28, 66, 67, 68] [26]) [⟨false, none, [], [], none⟩, ⟨false, none, [], [], none⟩, ⟨false, none, [], [], none⟩, ⟨false, none, [], [], none⟩, ⟨false, none, [], [], none⟩, ⟨false, none, [], [], none⟩, ⟨false, none, [], [], none⟩, ⟨false, none, [], [], none⟩, ⟨false, none, [], [], none⟩, ⟨false, none, [], [], none⟩, ⟨false, none, [], [], none⟩, ⟨false, none, [], [], none⟩, ⟨false, none, [], [], none⟩, ⟨false, none, [], [], none⟩, ⟨false, none, [], [], none⟩, ⟨false, none, [], [], none⟩, ⟨false, none, [], [], none⟩, ⟨false, none, [], [], none⟩, ⟨false, none, [], [], none⟩, ⟨false, none, [], [], none⟩, ⟨false, none, [], [], none⟩, ⟨false, none, [], [], none⟩, ⟨false, some [0, 1, 2, 3, 4, 5, 6, 7], [], [], none⟩] = some (c_spec_ReadGraph, r_spec_ReadGraph) := by kernel_rfl
end Go.Proofs.YtlglgcmpeabdnaaGreatDoorAi
end
