/- Contracts, joined. -/
import Derived.Test.YtkgodhdpcomjbaaMds1
import Derived.Test.YtkgodhdpcomjbaaAiX
import Derived.Test.YtkgodhdpcomjbaaProg
section
/- Cells of lists of data. -/
namespace Go.Proofs.YtkgodhdpcomjbaaAi
open Go Go.RowKit
set_option linter.unusedVariables false
set_option linter.unusedSimpArgs false
set_option linter.unusedSectionVars false

/-- Data that take so many plain cells. -/
class Plain {α : Type} (f : α → AV) (e : outParam Nat) : Prop where
  len : ∀ x, (f x).cells.length = e
  pos : 0 < e
  low : ∀ x, ltL 0 (f x).cells = true
  flat : ∀ x, flatL (f x).cells = true
  loose : ∀ x, looseL (f x).cells = (f x).cells
  elem : ∀ x r, elemA e ((f x).cells ++ r) = f x
instance : Plain frA 2 := ⟨fun _ => rfl, by omega, fun _ => rfl, fun _ => rfl, fun _ => rfl, fun _ _ => rfl⟩
instance : Plain grA 2 := ⟨fun _ => rfl, by omega, fun _ => rfl, fun _ => rfl, fun _ => rfl, fun _ _ => rfl⟩
instance : Plain flA 3 := ⟨fun _ => rfl, by omega, fun _ => rfl, fun _ => rfl, fun _ => rfl, fun _ _ => rfl⟩
instance : Plain inA 1 := ⟨fun _ => rfl, by omega, fun _ => rfl, fun _ => rfl, fun _ => rfl, fun _ _ => rfl⟩

def flatA (xs : List AV) : List AV := xs.flatMap AV.cells
section
variable {α : Type} {f : α → AV} {e : Nat} [hP : Plain f e]
include hP
theorem flatA_mem (l : List α) : ∀ x ∈ mapA f l, x.cells.length = e := by
  intro x hx
  obtain ⟨a, _, rfl⟩ := List.mem_map.1 hx
  exact hP.len a
@[simp] theorem flatA_len (l : List α) : (flatA (mapA f l)).length = l.length * e := by
  unfold flatA
  rw [flatMap_len e _ (flatA_mem l), mapA_length]
theorem flatA_at (l : List α) (k : Nat) : (flatA (mapA f l))[k]? = (l[k / e]?).bind fun x => (f x).cells[k % e]? := by
  unfold flatA
  rw [flatMap_get e _ k (flatA_mem l) hP.pos, mapA_get]
  cases l[k / e]? <;> rfl
theorem flatA_get (l : List α) (i j : Nat) (hj : j < e) : (flatA (mapA f l))[i * e + j]? = (l[i]?).bind fun x => (f x).cells[j]? := by
  rw [flatA_at, Nat.mul_comm, Nat.mul_add_div hP.pos, Nat.div_eq_of_lt hj, Nat.add_zero, Nat.mul_add_mod, Nat.mod_eq_of_lt hj]
omit hP in
theorem flatA_append (l k : List α) : flatA (mapA f (l ++ k)) = flatA (mapA f l) ++ flatA (mapA f k) := by simp [flatA, mapA]
omit hP in
theorem flatA_one (x : α) : flatA (mapA f [x]) = (f x).cells := by simp [flatA, mapA]
omit hP in
@[simp] theorem flatA_nil : flatA (mapA f []) = [] := rfl
omit hP in
theorem flatA_cons (x : α) (l : List α) : flatA (mapA f (x :: l)) = (f x).cells ++ flatA (mapA f l) := by simp [flatA, mapA]
theorem flatA_take (l : List α) (k : Nat) : (flatA (mapA f l)).take (k * e) = flatA (mapA f (l.take k)) := by
  rcases Nat.le_total k l.length with h | h
  · conv => lhs; rw [← List.take_append_drop k l]
    rw [flatA_append, List.take_left' (by rw [flatA_len, List.length_take, Nat.min_eq_left h])]
  · rw [List.take_of_length_le (by rw [flatA_len]; exact Nat.mul_le_mul_right _ h), List.take_of_length_le h]
theorem flatA_drop (l : List α) (k : Nat) : (flatA (mapA f l)).drop (k * e) = flatA (mapA f (l.drop k)) := by
  rcases Nat.le_total k l.length with h | h
  · conv => lhs; rw [← List.take_append_drop k l]
    rw [flatA_append, List.drop_left' (by rw [flatA_len, List.length_take, Nat.min_eq_left h])]
  · rw [List.drop_of_length_le (by rw [flatA_len]; exact Nat.mul_le_mul_right _ h), List.drop_of_length_le h]; rfl
theorem flatA_lt (n : Nat) : ∀ l : List α, ltL n (flatA (mapA f l)) = true
  | [] => rfl
  | x :: l => by rw [flatA_cons, ltL_append, flatA_lt n l, ltL_mono (Nat.zero_le n) _ (hP.low x)]; rfl
theorem flatA_flat : ∀ l : List α, flatL (flatA (mapA f l)) = true
  | [] => rfl
  | x :: l => by
    rw [flatA_cons]
    have : ∀ a b : List AV, flatL a = true → flatL b = true → flatL (a ++ b) = true := by
      intro a b ha hb
      induction a with
      | nil => exact hb
      | cons y a ih =>
        simp only [List.cons_append, flatL, Bool.and_eq_true] at *
        exact ⟨ha.1, ih ha.2⟩
    exact this _ _ (hP.flat x) (flatA_flat l)
theorem flatA_loose : ∀ l : List α, looseL (flatA (mapA f l)) = flatA (mapA f l)
  | [] => rfl
  | x :: l => by
    rw [flatA_cons, looseL_map, List.map_append, ← looseL_map, ← looseL_map, hP.loose, flatA_loose l]
theorem flatA_ren (g : Nat → Nat) (l : List α) : renL g (flatA (mapA f l)) = flatA (mapA f l) := renL_low _ _ (flatA_lt 0 l)
theorem flatA_gath : ∀ (l : List α) (n : Nat), n = l.length → gath e n (flatA (mapA f l)) = mapA f l
  | [], n, h => by subst h; rfl
  | x :: l, n, h => by
    subst h
    rw [List.length_cons, gath, flatA_cons, hP.elem, List.drop_left' (hP.len x), flatA_gath l _ rfl]
    rfl
theorem flatA_set (l : List α) (i : Nat) (x : α) (hi : i < l.length) : setCells (flatA (mapA f l)) (i * e) (f x).cells = flatA (mapA f (l.set i x)) := by
  have h1 : (i + 1) * e ≤ l.length * e := Nat.mul_le_mul_right _ hi
  rw [Nat.add_mul, Nat.one_mul] at h1
  rw [setCells_splice _ _ _ (by rw [flatA_len, hP.len]; exact h1), hP.len, flatA_take, show i * e + e = (i + 1) * e by rw [Nat.add_mul, Nat.one_mul], flatA_drop, ← flatA_one x, ← flatA_append, ← flatA_append, List.set_eq_take_append_cons_drop, if_pos hi]
  simp
omit hP in
theorem flatA_rep (n : Nat) (x : α) : (List.replicate n (f x).cells).flatten = flatA (mapA f (List.replicate n x)) := by
  induction n with
  | zero => rfl
  | succ n ih => rw [List.replicate_succ, List.flatten_cons, ih, List.replicate_succ, flatA_cons]
end
@[simp] theorem flatA_nms {α : Type} {f : α → AV} {e : Nat} [Plain f e] (l : List α) : nmsL (flatA (mapA f l)) = [] := nmsL_low _ (flatA_lt 0 l)
attribute [simp] flatA_lt flatA_flat flatA_loose flatA_ren
@[simp] theorem all_plain {α : Type} {f : α → AV} {e : Nat} [hP : Plain f e] (l : List α) : (mapA f l).all (fun x => x.cells.length == e) = true := by
  rw [List.all_eq_true]
  intro x hx
  exact beq_iff_eq.2 (flatA_mem l x hx)
@[simp] theorem fm_plain {α : Type} {f : α → AV} {e : Nat} [hP : Plain f e] (l : List α) : (mapA f l).flatMap AV.cells = flatA (mapA f l) := rfl
@[simp 2000] theorem sliceCells_plain {α : Type} {f : α → AV} {e : Nat} [hP : Plain f e] (A : AHeap) (l : List α) (t : Bool) : sliceCells A e (.sl (mapA f l) t) = some (flatA (mapA f l)) := by
  show (if ((mapA f l).all fun x => x.cells.length == e) = true then some (List.flatMap AV.cells (mapA f l)) else none) = _
  rw [if_pos (all_plain l)]
  rfl
@[simp 2000] theorem sliceA_plain {α : Type} {f : α → AV} {e : Nat} [hP : Plain f e] (l : List α) (t : Bool) (lo hi : Nat) (mx : Option Nat) : sliceA e (.sl (mapA f l) t) lo hi mx = if lo ≤ hi ∧ hi ≤ l.length ∧ maxOk hi l.length mx = true then some (.sl (mapA f ((l.take hi).drop lo)) (maxTight hi l.length t mx)) else none := by
  have h1 := all_plain (f := f) (e := e) l
  unfold sliceA
  dsimp only
  rw [mapA_length]
  by_cases c : lo ≤ hi ∧ hi ≤ l.length ∧ maxOk hi l.length mx = true
  · rw [if_pos ⟨c.1, c.2.1, c.2.2, h1⟩, if_pos c]
    simp [mapA, List.map_drop, List.map_take]
  · rw [if_neg (fun h => c ⟨h.1, h.2.1, h.2.2.1⟩), if_neg c]
@[simp] theorem gath_fr (l : List Fr) (n : Nat) (h : n = l.length) : gath 2 n (flatA (mapA frA l)) = mapA frA l := flatA_gath l n h
@[simp] theorem gath_gr (l : List Gr) (n : Nat) (h : n = l.length) : gath 2 n (flatA (mapA grA l)) = mapA grA l := flatA_gath l n h
@[simp] theorem gath_fl (l : List Fl) (n : Nat) (h : n = l.length) : gath 3 n (flatA (mapA flA l)) = mapA flA l := flatA_gath l n h
@[simp] theorem gath_in (l : List Int) (n : Nat) (h : n = l.length) : gath 1 n (flatA (mapA inA l)) = mapA inA l := flatA_gath l n h
@[simp] theorem news_fr (n : Nat) (p q : Int) : (List.replicate n [.int .i64 p, .int .i64 q]).flatten = flatA (mapA frA (List.replicate n ⟨p, q⟩)) := flatA_rep (f := frA) n ⟨p, q⟩
@[simp] theorem news_gr (n : Nat) (p q : Int) : (List.replicate n [.int .i64 p, .int .u32 q]).flatten = flatA (mapA grA (List.replicate n ⟨p, q⟩)) := flatA_rep (f := grA) n ⟨p, q⟩
@[simp] theorem news_fl (n : Nat) (m p q : Int) : (List.replicate n [.int .i64 m, .int .i64 p, .int .u32 q]).flatten = flatA (mapA flA (List.replicate n ⟨m, p, q⟩)) := flatA_rep (f := flA) n ⟨m, p, q⟩
@[simp] theorem news_in (n : Nat) (p : Int) : (List.replicate n [.int .i64 p]).flatten = flatA (mapA inA (List.replicate n p)) := flatA_rep (f := inA) n p
theorem set_fr (l : List Fr) (i : Nat) (p q : Int) (h : i < l.length) : ((flatA (mapA frA l)).set (i * 2) (.int .i64 p)).set (i * 2 + 1) (.int .i64 q) = flatA (mapA frA (l.set i ⟨p, q⟩)) := flatA_set (f := frA) l i ⟨p, q⟩ h
theorem set_gr (l : List Gr) (i : Nat) (p q : Int) (h : i < l.length) : ((flatA (mapA grA l)).set (i * 2) (.int .i64 p)).set (i * 2 + 1) (.int .u32 q) = flatA (mapA grA (l.set i ⟨p, q⟩)) := flatA_set (f := grA) l i ⟨p, q⟩ h
theorem set_fl (l : List Fl) (i : Nat) (m p q : Int) (h : i < l.length) : (((flatA (mapA flA l)).set (i * 3) (.int .i64 m)).set (i * 3 + 1) (.int .i64 p)).set (i * 3 + 1 + 1) (.int .u32 q) = flatA (mapA flA (l.set i ⟨m, p, q⟩)) := flatA_set (f := flA) l i ⟨m, p, q⟩ h
theorem set_in (l : List Int) (i : Nat) (p : Int) (h : i < l.length) : (flatA (mapA inA l)).set i (.int .i64 p) = flatA (mapA inA (l.set i p)) := by
  have := flatA_set (f := inA) l i p h
  rw [Nat.mul_one] at this
  exact this
theorem get_fr0 (l : List Fr) (i : Nat) (h : i < l.length) : (flatA (mapA frA l))[i * 2]? = some (.int .i64 l[i].p) := by
  have := flatA_get (f := frA) l i 0 (by omega)
  rw [Nat.add_zero] at this
  rw [this]; simp [h]
theorem get_fr1 (l : List Fr) (i : Nat) (h : i < l.length) : (flatA (mapA frA l))[i * 2 + 1]? = some (.int .i64 l[i].q) := by
  rw [flatA_get (f := frA) l i 1 (by omega)]; simp [h]
theorem get_gr0 (l : List Gr) (i : Nat) (h : i < l.length) : (flatA (mapA grA l))[i * 2]? = some (.int .i64 l[i].n) := by
  have := flatA_get (f := grA) l i 0 (by omega)
  rw [Nat.add_zero] at this
  rw [this]; simp [h]
theorem get_gr1 (l : List Gr) (i : Nat) (h : i < l.length) : (flatA (mapA grA l))[i * 2 + 1]? = some (.int .u32 l[i].e) := by
  rw [flatA_get (f := grA) l i 1 (by omega)]; simp [h]
theorem get_in (l : List Int) (i : Nat) (h : i < l.length) : (flatA (mapA inA l))[i]? = some (.int .i64 l[i]) := by
  have := flatA_get (f := inA) l i 0 (by omega)
  rw [Nat.add_zero, Nat.mul_one] at this
  rw [this]; simp [h]
theorem flatA_cells (x : Fr) : flatA [frA x] = [.int .i64 x.p, .int .i64 x.q] := rfl

/-! ### marks -/
def marksF : Nat → Int → List Fr
  | 0, _ => []
  | n + 1, k => ⟨k, k + 1⟩ :: marksF n (k + 2)
@[simp] theorem marksF_len : ∀ (n : Nat) (k : Int), (marksF n k).length = n
  | 0, _ => rfl
  | n + 1, k => by simp [marksF, marksF_len n]
theorem marksF_get : ∀ (n : Nat) (k : Int) (i : Nat) (h : i < (marksF n k).length), (marksF n k)[i] = ⟨k + 2 * i, k + 2 * i + 1⟩
  | 0, _, i, h => by simp [marksF] at h
  | n + 1, k, 0, h => by simp [marksF]
  | n + 1, k, i + 1, h => by
    simp only [marksF, List.getElem_cons_succ]
    rw [marksF_get n (k + 2) i]
    simp only [Fr.mk.injEq]
    omega
@[simp] theorem marksF_inj (n n' : Nat) (k k' : Int) : marksF n k = marksF n' k' ↔ n = n' ∧ (n = 0 ∨ k = k') := by
  constructor
  · intro h
    have hn : n = n' := by have := congrArg List.length h; simpa using this
    subst hn
    refine ⟨rfl, ?_⟩
    cases n with
    | zero => exact .inl rfl
    | succ n =>
      simp only [marksF, List.cons.injEq, Fr.mk.injEq] at h
      exact .inr h.1.1
  · rintro ⟨rfl, rfl | rfl⟩ <;> rfl
theorem marks_start (l : List Fr) (k : Int) : l = (marksF l.length k).take 0 ++ l.drop 0 := by simp
theorem marks_step (l : List Fr) (k : Int) (i : Nat) (h : i < l.length) : ((marksF l.length k).take i ++ l.drop i).set i ⟨k + 2 * i, k + 2 * i + 1⟩ = (marksF l.length k).take (i + 1) ++ l.drop (i + 1) := by
  rw [List.set_append_right _ _ (by simp; omega)]
  have e : i - ((marksF l.length k).take i).length = 0 := by simp; omega
  rw [e, List.drop_eq_getElem_cons h, List.set_cons_zero, take_snoc _ i (by simpa using h), marksF_get, List.append_assoc]
  rfl
theorem marks_end (l : List Fr) (k : Int) : (marksF l.length k).take l.length ++ l.drop l.length = marksF l.length k := by
  simp [List.take_of_length_le]

end Go.Proofs.YtkgodhdpcomjbaaAi
end

section
/- MADE BY PROGRAM (wip/tools/gen.py): the abstract code of functions. -/
namespace Go.Proofs.YtkgodhdpcomjbaaAi
open Go AC AOp Opd
set_option linter.unusedVariables false
set_option maxRecDepth 100000
def c_math_bits_Mul64 : AC := seq (reg [⟨(some 4), mv (c (.int .u64 0)), none⟩, ⟨(some 5), mv (c (.int .u64 0)), none⟩]) (seq (reg [⟨(some 14), mv (t 0), none⟩, ⟨(some 15), bin .and (t 14) (c (.int .u64 4294967295)), none⟩, ⟨(some 6), mv (t 15), none⟩]) (seq (reg [⟨(some 16), mv (t 0), none⟩, ⟨(some 17), bin .shr (t 16) (c (.int .u64 32)), none⟩, ⟨(some 7), mv (t 17), none⟩]) (seq (reg [⟨(some 18), mv (t 1), none⟩, ⟨(some 19), bin .and (t 18) (c (.int .u64 4294967295)), none⟩, ⟨(some 8), mv (t 19), none⟩]) (seq (reg [⟨(some 20), mv (t 1), none⟩, ⟨(some 21), bin .shr (t 20) (c (.int .u64 32)), none⟩, ⟨(some 9), mv (t 21), none⟩]) (seq (reg [⟨(some 22), mv (t 6), none⟩, ⟨(some 23), mv (t 8), none⟩, ⟨(some 24), bin .mul (t 22) (t 23), none⟩, ⟨(some 10), mv (t 24), none⟩]) (seq (reg [⟨(some 25), mv (t 7), none⟩, ⟨(some 26), mv (t 8), none⟩, ⟨(some 27), bin .mul (t 25) (t 26), none⟩, ⟨(some 28), mv (t 10), none⟩, ⟨(some 29), bin .shr (t 28) (c (.int .u64 32)), none⟩, ⟨(some 30), bin .add (t 27) (t 29), none⟩, ⟨(some 11), mv (t 30), none⟩]) (seq (reg [⟨(some 31), mv (t 11), none⟩, ⟨(some 32), bin .and (t 31) (c (.int .u64 4294967295)), none⟩, ⟨(some 12), mv (t 32), none⟩]) (seq (reg [⟨(some 33), mv (t 11), none⟩, ⟨(some 34), bin .shr (t 33) (c (.int .u64 32)), none⟩, ⟨(some 13), mv (t 34), none⟩]) (seq (reg [⟨(some 35), mv (t 12), none⟩, ⟨(some 36), mv (t 6), none⟩, ⟨(some 37), mv (t 9), none⟩, ⟨(some 38), bin .mul (t 36) (t 37), none⟩, ⟨(some 39), bin .add (t 35) (t 38), none⟩, ⟨(some 12), mv (t 39), none⟩]) (seq (reg [⟨(some 40), mv (t 7), none⟩, ⟨(some 41), mv (t 9), none⟩, ⟨(some 42), bin .mul (t 40) (t 41), none⟩, ⟨(some 43), mv (t 13), none⟩, ⟨(some 44), bin .add (t 42) (t 43), none⟩, ⟨(some 45), mv (t 12), none⟩, ⟨(some 46), bin .shr (t 45) (c (.int .u64 32)), none⟩, ⟨(some 47), bin .add (t 44) (t 46), none⟩, ⟨(some 4), mv (t 47), none⟩]) (seq (reg [⟨(some 48), mv (t 0), none⟩, ⟨(some 49), mv (t 1), none⟩, ⟨(some 50), bin .mul (t 48) (t 49), none⟩, ⟨(some 5), mv (t 50), none⟩]) (ret))))))))))))
def r_math_bits_Mul64 : List ARes := [.tmp 4, .tmp 5]
theorem k_math_bits_Mul64 : acLin Go.Proofs.Try.prog 173 2 (inQ [] []) [] = some (c_math_bits_Mul64, r_math_bits_Mul64) := by kernel_rfl
def c_math_bits_Mul : AC := seq (reg [⟨(some 4), mv (c (.int .u64 0)), none⟩, ⟨(some 5), mv (c (.int .u64 0)), none⟩]) (seq (cond (c (.bool false)) (seq (reg [⟨(some 11), mv (t 0), none⟩, ⟨(some 12), conv .u32 (t 11), none⟩, ⟨(some 13), mv (t 1), none⟩, ⟨(some 14), conv .u32 (t 13), none⟩, ⟨(some 15), call (c (.fn 172 [])) [t 12, t 14], none⟩, ⟨(some 10), mv (t 15), none⟩, ⟨(some 16), ext (t 10) 0, none⟩, ⟨(some 17), ext (t 10) 1, none⟩, ⟨(some 6), mv (t 16), none⟩, ⟨(some 7), mv (t 17), none⟩]) (seq (reg [⟨(some 18), mv (t 6), none⟩, ⟨(some 19), conv .u64 (t 18), none⟩, ⟨(some 20), mv (t 7), none⟩, ⟨(some 21), conv .u64 (t 20), none⟩, ⟨(some 4), mv (t 19), none⟩, ⟨(some 5), mv (t 21), none⟩]) (ret))) (skip)) (seq (reg [⟨(some 23), mv (t 0), none⟩, ⟨(some 24), mv (t 1), none⟩, ⟨(some 25), callq (c (.fn 173 [])) [t 23, t 24], none⟩, ⟨(some 22), mv (t 25), none⟩, ⟨(some 26), ext (t 22) 0, none⟩, ⟨(some 27), ext (t 22) 1, none⟩, ⟨(some 8), mv (t 26), none⟩, ⟨(some 9), mv (t 27), none⟩]) (seq (reg [⟨(some 28), mv (t 8), none⟩, ⟨(some 29), mv (t 9), none⟩, ⟨(some 4), mv (t 28), none⟩, ⟨(some 5), mv (t 29), none⟩]) (ret))))
def r_math_bits_Mul : List ARes := [.tmp 4, .tmp 5]
theorem k_math_bits_Mul : acLin Go.Proofs.Try.prog 144 2 (inQ [173] []) [] = some (c_math_bits_Mul, r_math_bits_Mul) := by kernel_rfl
def c_impl_bit : AC := seq (reg [⟨(some 4), mv (c (.int .u32 0)), none⟩]) (seq (seq (reg [⟨(some 5), mv (t 0), none⟩, ⟨(some 6), mv (t 1), none⟩, ⟨(some 7), bin .gtr (t 5) (t 6), none⟩]) (cond (t 7) (reg [⟨(some 8), mv (t 1), none⟩, ⟨(some 9), mv (t 0), none⟩, ⟨(some 0), mv (t 8), none⟩, ⟨(some 1), mv (t 9), none⟩]) (skip))) (seq (reg [⟨(some 10), mv (t 1), none⟩, ⟨(some 11), callq (c (.fn 171 [])) [t 10], none⟩, ⟨(some 12), mv (t 0), none⟩, ⟨(some 13), bin .add (t 11) (t 12), none⟩, ⟨(some 14), bin .shl (c (.int .u32 1)) (t 13), none⟩, ⟨(some 4), mv (t 14), none⟩]) (ret)))
def r_impl_bit : List ARes := [.tmp 4]
theorem k_impl_bit : acLin Go.Proofs.Try.prog 145 2 (inQ [171] []) [] = some (c_impl_bit, r_impl_bit) := by kernel_rfl
def c_impl_made : AC := seq (reg [⟨(some 4), alloc [.int .i64 0, .int .u32 0], none⟩]) (seq (reg [⟨(some 8), mv (t 0), none⟩, ⟨(some 9), bld [.int .i64 0, .int .u32 0] [(0, 1, t 8)], none⟩, ⟨(some 5), alloc [.int .i64 0, .int .u32 0], none⟩, ⟨none, st (t 5) 2 (t 9), none⟩]) (seq (seq (reg [⟨(some 10), mv (t 0), none⟩, ⟨(some 11), mv (c (.int .i64 0)), none⟩]) (block 0 (loop (seq (reg [⟨(some 12), bin .lss (t 11) (t 10), none⟩]) (seq (cond (t 12) (skip) (exit 0)) (seq (block 1 (seq (reg [⟨(some 13), mv (t 11), none⟩, ⟨(some 6), mv (t 13), none⟩]) (seq (reg [⟨(some 14), mv (t 6), none⟩, ⟨(some 15), mv (c (.int .i64 0)), none⟩]) (block 2 (loop (seq (reg [⟨(some 16), bin .lss (t 15) (t 14), none⟩]) (seq (cond (t 16) (skip) (exit 2)) (seq (block 3 (seq (reg [⟨(some 17), mv (t 15), none⟩, ⟨(some 7), mv (t 17), none⟩]) (seq (reg [⟨(some 18), mv (t 1), none⟩, ⟨(some 19), mv (t 7), none⟩, ⟨(some 20), mv (t 6), none⟩, ⟨(some 21), call (t 18) [t 19, t 20], none⟩]) (cond (t 21) (reg [⟨(some 22), fad (t 5) 1, none⟩, ⟨(some 23), ld (t 22) 1 false, none⟩, ⟨(some 24), mv (t 7), none⟩, ⟨(some 25), mv (t 6), none⟩, ⟨(some 26), callq (c (.fn 145 [])) [t 24, t 25], none⟩, ⟨(some 27), bin .or (t 23) (t 26), none⟩, ⟨(some 28), fad (t 5) 1, none⟩, ⟨none, st (t 28) 1 (t 27), none⟩]) (skip))))) (reg [⟨(some 29), bin .add (t 15) (c (.int .i64 1)), none⟩, ⟨(some 15), mv (t 29), none⟩]))))))))) (reg [⟨(some 30), bin .add (t 11) (c (.int .i64 1)), none⟩, ⟨(some 11), mv (t 30), none⟩]))))))) (seq (reg [⟨(some 31), ld (t 5) 2 true, none⟩, ⟨none, st (t 4) 2 (t 31), none⟩]) (ret))))
def r_impl_made : List ARes := [.cell 4 2 true]
theorem k_impl_made : acLin Go.Proofs.Try.prog 80 2 (inQ [145] []) [⟨false, none, [], [], none⟩, ⟨false, none, [], [], none⟩, ⟨false, none, [], [], none⟩, ⟨false, none, [], [], none⟩, ⟨false, none, [], [], none⟩, ⟨false, none, [], [], none⟩, ⟨false, none, [], [], none⟩, ⟨false, none, [], [], none⟩, ⟨false, none, [], [], none⟩, ⟨false, none, [], [], none⟩, ⟨false, none, [], [], none⟩, ⟨false, some [0, 1, 2, 3, 4, 5, 6, 7], [], [], none⟩] = some (c_impl_made, r_impl_made) := by kernel_rfl
def c_spec_CompleteGraph : AC := seq (reg [⟨(some 2), alloc [.int .i64 0, .int .u32 0], none⟩, ⟨(some 3), mv (c (.int .i64 0)), none⟩]) (seq (seq (reg [⟨(some 4), mv (t 0), none⟩, ⟨(some 5), callq (c (.fn 73 [])) [t 4, c (.int .i64 0), c (.int .i64 5)], none⟩, ⟨(some 6), un .not (t 5), none⟩]) (cond (t 6) (seq (reg [⟨(some 7), bld [.int .i64 0, .int .u32 0] [], none⟩, ⟨none, st (t 2) 2 (t 7), none⟩, ⟨(some 3), mv (c (.int .i64 2)), none⟩]) (ret)) (skip))) (seq (reg [⟨(some 8), mv (t 0), none⟩, ⟨(some 9), mv (t 0), none⟩, ⟨(some 10), callq (c (.fn 135 [])) [t 9], none⟩, ⟨(some 11), conv .u64 (t 10), none⟩, ⟨(some 12), bin .shl (c (.int .i64 1)) (t 11), none⟩, ⟨(some 13), bin .sub (t 12) (c (.int .i64 1)), none⟩, ⟨(some 14), conv .u32 (t 13), none⟩, ⟨(some 15), bld [.int .i64 0, .int .u32 0] [(0, 1, t 8), (1, 1, t 14)], none⟩, ⟨none, st (t 2) 2 (t 15), none⟩, ⟨(some 3), mv (c (.int .i64 0)), none⟩]) (ret)))
def r_spec_CompleteGraph : List ARes := [.cell 2 2 true, .tmp 3]
theorem k_spec_CompleteGraph : acLin Go.Proofs.Try.prog 130 1 (inQ [73, 135] []) [] = some (c_spec_CompleteGraph, r_spec_CompleteGraph) := by kernel_rfl
def c_laws_markFractionS : AC := seq (reg [⟨(some 4), mv (c (.int .i64 0)), none⟩]) (seq (seq (reg [⟨(some 5), mv (c (.int .i64 0)), none⟩]) (block 0 (loop (seq (seq (reg [⟨(some 6), mv (t 5), none⟩, ⟨(some 7), mv (t 0), none⟩, ⟨(some 8), len (t 7), none⟩, ⟨(some 9), bin .lss (t 6) (t 8), none⟩]) (cond (t 9) (skip) (exit 0))) (seq (block 1 (seq (reg [⟨(some 12), mv (t 0), none⟩, ⟨(some 13), mv (t 5), none⟩, ⟨(some 14), mv (t 1), none⟩, ⟨(some 15), iad 2 (t 12) (t 13), none⟩, ⟨(some 16), fad (t 15) 0, none⟩, ⟨none, st (t 16) 1 (t 14), none⟩]) (seq (reg [⟨(some 17), mv (t 1), none⟩, ⟨(some 18), bin .add (t 17) (c (.int .i64 1)), none⟩, ⟨(some 1), mv (t 18), none⟩]) (seq (reg [⟨(some 19), mv (t 0), none⟩, ⟨(some 20), mv (t 5), none⟩, ⟨(some 21), mv (t 1), none⟩, ⟨(some 22), iad 2 (t 19) (t 20), none⟩, ⟨(some 23), fad (t 22) 1, none⟩, ⟨none, st (t 23) 1 (t 21), none⟩]) (reg [⟨(some 24), mv (t 1), none⟩, ⟨(some 25), bin .add (t 24) (c (.int .i64 1)), none⟩, ⟨(some 1), mv (t 25), none⟩]))))) (reg [⟨(some 10), mv (t 5), none⟩, ⟨(some 11), bin .add (t 10) (c (.int .i64 1)), none⟩, ⟨(some 5), mv (t 11), none⟩])))))) (seq (reg [⟨(some 26), mv (t 1), none⟩, ⟨(some 4), mv (t 26), none⟩]) (ret)))
def r_laws_markFractionS : List ARes := [.tmp 4]
theorem k_laws_markFractionS : acLin Go.Proofs.Try.prog 51 2 (inQ [] []) [] = some (c_laws_markFractionS, r_laws_markFractionS) := by kernel_rfl
def c_laws_heldFractionS : AC := seq (reg [⟨(some 4), mv (c (.int .i64 0)), none⟩]) (seq (seq (reg [⟨(some 5), mv (c (.int .i64 0)), none⟩]) (block 0 (loop (seq (seq (reg [⟨(some 6), mv (t 5), none⟩, ⟨(some 7), mv (t 0), none⟩, ⟨(some 8), len (t 7), none⟩, ⟨(some 9), bin .lss (t 6) (t 8), none⟩]) (cond (t 9) (skip) (exit 0))) (seq (block 1 (seq (seq (reg [⟨(some 12), mv (t 0), none⟩, ⟨(some 13), mv (t 5), none⟩, ⟨(some 14), iad 2 (t 12) (t 13), none⟩, ⟨(some 15), fad (t 14) 0, none⟩, ⟨(some 16), ld (t 15) 1 false, none⟩, ⟨(some 17), mv (t 1), none⟩, ⟨(some 18), bin .neq (t 16) (t 17), none⟩]) (cond (t 18) (seq (reg [⟨(some 4), mv (c (.int .i64 (-1))), none⟩]) (ret)) (skip))) (seq (reg [⟨(some 19), mv (t 1), none⟩, ⟨(some 20), bin .add (t 19) (c (.int .i64 1)), none⟩, ⟨(some 1), mv (t 20), none⟩]) (seq (seq (reg [⟨(some 21), mv (t 0), none⟩, ⟨(some 22), mv (t 5), none⟩, ⟨(some 23), iad 2 (t 21) (t 22), none⟩, ⟨(some 24), fad (t 23) 1, none⟩, ⟨(some 25), ld (t 24) 1 false, none⟩, ⟨(some 26), mv (t 1), none⟩, ⟨(some 27), bin .neq (t 25) (t 26), none⟩]) (cond (t 27) (seq (reg [⟨(some 4), mv (c (.int .i64 (-1))), none⟩]) (ret)) (skip))) (reg [⟨(some 28), mv (t 1), none⟩, ⟨(some 29), bin .add (t 28) (c (.int .i64 1)), none⟩, ⟨(some 1), mv (t 29), none⟩]))))) (reg [⟨(some 10), mv (t 5), none⟩, ⟨(some 11), bin .add (t 10) (c (.int .i64 1)), none⟩, ⟨(some 5), mv (t 11), none⟩])))))) (seq (reg [⟨(some 30), mv (t 1), none⟩, ⟨(some 4), mv (t 30), none⟩]) (ret)))
def r_laws_heldFractionS : List ARes := [.tmp 4]
theorem k_laws_heldFractionS : acLin Go.Proofs.Try.prog 52 2 (inQ [] []) [] = some (c_laws_heldFractionS, r_laws_heldFractionS) := by kernel_rfl
def c_laws_markPattern : AC := seq (reg [⟨(some 2), box 4 (t 0), none⟩, ⟨(some 4), mv (c (.int .i64 0)), none⟩]) (seq (reg [⟨(some 5), fad (t 2) 3, none⟩, ⟨(some 6), ld (t 5) 1 false, none⟩, ⟨(some 7), mv (t 1), none⟩, ⟨(some 8), calle (c (.fn 51 [])) [t 6, t 7] [], none⟩, ⟨(some 1), mv (t 8), none⟩]) (seq (reg [⟨(some 9), mv (t 1), none⟩, ⟨(some 4), mv (t 9), none⟩]) (ret)))
def r_laws_markPattern : List ARes := [.tmp 4]
theorem k_laws_markPattern : acLin Go.Proofs.Try.prog 19 2 (inQ [] [51]) [] = some (c_laws_markPattern, r_laws_markPattern) := by kernel_rfl
def c_laws_heldPattern : AC := seq (reg [⟨(some 2), box 4 (t 0), none⟩, ⟨(some 4), mv (c (.int .i64 0)), none⟩]) (seq (reg [⟨(some 5), fad (t 2) 3, none⟩, ⟨(some 6), ld (t 5) 1 false, none⟩, ⟨(some 7), mv (t 1), none⟩, ⟨(some 8), callq (c (.fn 52 [])) [t 6, t 7], none⟩, ⟨(some 1), mv (t 8), none⟩]) (seq (seq (reg [⟨(some 9), mv (t 1), none⟩, ⟨(some 10), bin .lss (t 9) (c (.int .i64 0)), none⟩]) (cond (t 10) (seq (reg [⟨(some 4), mv (c (.int .i64 (-1))), none⟩]) (ret)) (skip))) (seq (reg [⟨(some 11), mv (t 1), none⟩, ⟨(some 4), mv (t 11), none⟩]) (ret))))
def r_laws_heldPattern : List ARes := [.tmp 4]
theorem k_laws_heldPattern : acLin Go.Proofs.Try.prog 20 2 (inQ [52] []) [] = some (c_laws_heldPattern, r_laws_heldPattern) := by kernel_rfl
end Go.Proofs.YtkgodhdpcomjbaaAi
end

section
/- Contracts: products of words; cells over and over; patterns of equal parts. -/
namespace Go.Proofs.YtkgodhdpcomjbaaAi
open Go Go.RowKit
set_option linter.unusedVariables false
set_option linter.unusedSimpArgs false
set_option maxRecDepth 20000

theorem mask64n {a : Int} (h0 : 0 ≤ a) (ha : a < 4294967296) : IntKind.u64.wrap ((a % 2 ^ IntKind.u64.bits).toNat &&& 4294967295 % 2 ^ IntKind.u64.bits : Nat) = a := by
  have h := mask64 h0 ha
  rw [BitVec.toNat_and, BitVec.toNat_ofInt, BitVec.toNat_ofInt] at h
  exact h
theorem mask64z : IntKind.u64.wrap ((0 % 2 ^ IntKind.u64.bits : Int).toNat &&& 4294967295 % 2 ^ IntKind.u64.bits : Nat) = 0 := mask64n (by omega) (by omega)
theorem shr64 {a : Int} (h0 : 0 ≤ a) (ha : a < 4294967296) : a.fdiv (2 ^ min 32 IntKind.u64.bits) = 0 := shr0 (n := 32) h0 ha
theorem wrap0 : IntKind.u64.wrap 0 = 0 := rfl
noncomputable def sp_Mul64 : List AV → Option (AV) := pf (ι := (Int) × (Int)) (α := AV) (fun ⟨a, b⟩ => (0 ≤ a ∧ a < 65536) ∧ (0 ≤ b ∧ b < 65536)) (fun ⟨a, b⟩ => [.int .u64 a, .int .u64 b]) (fun ⟨a, b⟩ => .tup [.int .u64 0, .int .u64 (a * b)])
theorem sp_Mul64_eq (a b : Int) (h : (0 ≤ a ∧ a < 65536) ∧ (0 ≤ b ∧ b < 65536)) : sp_Mul64 [.int .u64 a, .int .u64 b] = some (.tup [.int .u64 0, .int .u64 (a * b)]) := by
  unfold sp_Mul64
  exact pf_eq (ι := (Int) × (Int)) (α := AV) (a, b) h (by rintro ⟨a', b'⟩ _ e; simp_all [Int.natCast_inj])
theorem q_math_bits_Mul64 : QP PP 173 sp_Mul64 := by
  refine QP_pf (fun i h => ?_) fun i h => ?_
  · obtain ⟨a, b⟩ := i; exact ⟨by first | rfl | simp, by first | rfl | simp⟩
  obtain ⟨a, b⟩ := i
  replace h : (0 ≤ a ∧ a < 65536) ∧ (0 ≤ b ∧ b < 65536) := h
  refine P_code Quiet.nil hmix k_math_bits_Mul64 rfl ?_ ?_
  · first | rfl | simp
  show wpc 0 PP _ c_math_bits_Mul64 (initSt [.int .u64 a, .int .u64 b] .nil) (endP r_math_bits_Mul64 (.tup [.int .u64 0, .int .u64 (a * b)]))
  obtain ⟨⟨a0, a1⟩, b0, b1⟩ := h
  have hab : 0 ≤ a * b := Int.mul_nonneg a0 b0
  have hab1 : a * b < 4294967296 := by
    have : a * b ≤ 65535 * 65535 := Int.mul_le_mul (by omega) (by omega) b0 (by omega)
    omega
  simp -dsimp -implicitDefEqProofs [c_math_bits_Mul64, r_math_bits_Mul64, mask64n (a := a) a0 (by omega), mask64n (a := b) b0 (by omega), shr64 (a := a) a0 (by omega), shr64 (a := b) b0 (by omega), wrapU64 hab (by omega), shr64 hab hab1, wrap0, mask64z]
theorem q_math_bits_Mul : QP PP 144 sp_Mul64 := by
  refine QP_pf (fun i h => ?_) fun i h => ?_
  · obtain ⟨a, b⟩ := i; exact ⟨by first | rfl | simp, by first | rfl | simp⟩
  obtain ⟨a, b⟩ := i
  replace h : (0 ≤ a ∧ a < 65536) ∧ (0 ≤ b ∧ b < 65536) := h
  refine P_code (Quiet.q1 q_math_bits_Mul64 Quiet.nil) hmix k_math_bits_Mul rfl ?_ ?_
  · first | rfl | simp
  show wpc 0 PP _ c_math_bits_Mul (initSt [.int .u64 a, .int .u64 b] .nil) (endP r_math_bits_Mul (.tup [.int .u64 0, .int .u64 (a * b)]))
  simp -dsimp -implicitDefEqProofs [c_math_bits_Mul, r_math_bits_Mul, sp_Mul64_eq a b h]

theorem reps_fr (n : Nat) (p q : Int) : rep n [.int .i64 p, .int .i64 q] = flatA (frsA (List.replicate n ⟨p, q⟩)) := news_fr n p q
noncomputable def sp_repeatF : List AV → List AV → Option (AV × List (Option (List AV))) := pb (pf (ι := (Int) × (Int) × (Int)) (α := AV × List (Option (List AV))) (fun ⟨p, q, n⟩ => 1 ≤ n ∧ n < 65536) (fun i => .agg ((fun ⟨p, q, n⟩ => [.int .i64 p, .int .i64 q] : (Int) × (Int) × (Int) → List AV) i) :: (fun ⟨p, q, n⟩ => [.ref 0 2 0 1 .tight, .int .i64 n] : (Int) × (Int) × (Int) → List AV) i) (fun ⟨p, q, n⟩ => (.ref 1 2 0 n.toNat .tight, [some [.int .i64 p, .int .i64 q], some (flatA (frsA (List.replicate n.toNat ⟨p, q⟩)))])))
theorem sp_repeatF_eq (p q n : Int) (h : 1 ≤ n ∧ n < 65536) : sp_repeatF [.int .i64 p, .int .i64 q] [.ref 0 2 0 1 .tight, .int .i64 n] = some (.ref 1 2 0 n.toNat .tight, [some [.int .i64 p, .int .i64 q], some (flatA (frsA (List.replicate n.toNat ⟨p, q⟩)))]) := by
  unfold sp_repeatF pb
  exact pf_eq (ι := (Int) × (Int) × (Int)) (α := AV × List (Option (List AV))) (p, q, n) h (by rintro ⟨p', q', n'⟩ _ e; simp_all [Int.natCast_inj])
theorem low1 {n : Int} (h : 1 ≤ n ∧ n ≤ 4) : lowP 1 n = 1 ∧ lowQ 1 n = n := by
  have h5 : n = 1 ∨ n = 2 ∨ n = 3 ∨ n = 4 := by omega
  rcases h5 with rfl | rfl | rfl | rfl <;> decide
def evenL (n : Int) : List Fr := List.replicate n.toNat ⟨1, n⟩
noncomputable def sp_even : List AV → Option (AV × List (Option (List AV))) := pf (ι := (Int) × (Int) × (Int)) (α := AV × List (Option (List AV))) (fun ⟨n, e, l⟩ => 1 ≤ n ∧ n ≤ 4) (fun ⟨n, e, l⟩ => [.agg [.int .i64 n, .int .u32 e], .int .u32 l]) (fun ⟨n, e, l⟩ => (.agg [.int .i64 n, .int .u32 e, .int .u32 l, .ref 0 2 0 n.toNat .tight], [some (flatA (frsA (evenL n)))]))
theorem sp_even_eq (n e l : Int) (h : 1 ≤ n ∧ n ≤ 4) : sp_even [.agg [.int .i64 n, .int .u32 e], .int .u32 l] = some ((.agg [.int .i64 n, .int .u32 e, .int .u32 l, .ref 0 2 0 n.toNat .tight], [some (flatA (frsA (evenL n)))])) := by
  unfold sp_even
  exact pf_eq (ι := (Int) × (Int) × (Int)) (α := AV × List (Option (List AV))) (n, e, l) h (by rintro ⟨n', e', l'⟩ _ e; simp_all [Int.natCast_inj])
end Go.Proofs.YtkgodhdpcomjbaaAi
end

section
/- Contracts: patterns of equal weights. -/
namespace Go.Proofs.YtkgodhdpcomjbaaAi
open Go Go.RowKit
set_option linter.unusedVariables false
set_option linter.unusedSimpArgs false
set_option maxRecDepth 20000

def noPat (c : Int) : AV := .tup [.agg [.int .i64 0, .int .u32 0, .int .u32 0, .sl [] true], .int .i64 c]
def evenR (t : Cp) (n e l : Int) : AV × List (Option (List AV)) :=
  if graphOk n e = false then (noPat 1, []) else if loopsOk n l = false then (noPat 2, [])
  else (.tup [.agg [.int .i64 n, .int .u32 e, .int .u32 l, .ref 0 2 0 n.toNat t], .int .i64 0], [some (flatA (frsA (evenL n)))])
theorem loops_n {n l : Int} (h : loopsOk n l = true) : 1 ≤ n ∧ n ≤ 4 := (of_decide_eq_true h).1
noncomputable def sp_evenI : List AV → Option (AV × List (Option (List AV))) := pf (ι := (Int) × (Int) × (Int)) (α := AV × List (Option (List AV))) (fun ⟨n, e, l⟩ => (0 ≤ e ∧ e ≤ 4294967295) ∧ (0 ≤ l ∧ l ≤ 4294967295)) (fun ⟨n, e, l⟩ => [.agg [.int .i64 n, .int .u32 e], .int .u32 l]) (fun ⟨n, e, l⟩ => evenR .tight n e l)
theorem sp_evenI_eq (n e l : Int) (h : (0 ≤ e ∧ e ≤ 4294967295) ∧ (0 ≤ l ∧ l ≤ 4294967295)) : sp_evenI [.agg [.int .i64 n, .int .u32 e], .int .u32 l] = some (evenR .tight n e l) := by
  unfold sp_evenI
  exact pf_eq (ι := (Int) × (Int) × (Int)) (α := AV × List (Option (List AV))) (n, e, l) h (by rintro ⟨n', e', l'⟩ _ e; simp_all [Int.natCast_inj])
noncomputable def sp_evenS : List AV → Option (AV × List (Option (List AV))) := pf (ι := (Int) × (Int) × (Int)) (α := AV × List (Option (List AV))) (fun ⟨n, e, l⟩ => (0 ≤ e ∧ e ≤ 4294967295) ∧ (0 ≤ l ∧ l ≤ 4294967295)) (fun ⟨n, e, l⟩ => [.agg [.int .i64 n, .int .u32 e], .int .u32 l]) (fun ⟨n, e, l⟩ => evenR .full n e l)
theorem sp_evenS_eq (n e l : Int) (h : (0 ≤ e ∧ e ≤ 4294967295) ∧ (0 ≤ l ∧ l ≤ 4294967295)) : sp_evenS [.agg [.int .i64 n, .int .u32 e], .int .u32 l] = some (evenR .full n e l) := by
  unfold sp_evenS
  exact pf_eq (ι := (Int) × (Int) × (Int)) (α := AV × List (Option (List AV))) (n, e, l) h (by rintro ⟨n', e', l'⟩ _ e; simp_all [Int.natCast_inj])
def evSt (n e l : Int) : Nat → St
  | 0 => ⟨tl [(2, .ptr 0 0), (4, .ptr 1 0), (5, .int .i64 0), (6, .ptr 2 0), (7, .int .i64 0)], ⟨[some [.int .i64 n, .int .u32 e], some [.int .i64 0, .int .u32 0, .int .u32 0, .sl [] true], some [.int .i64 n, .int .u32 e, .int .u32 l, .sl [] true]]⟩⟩
  | i + 1 => ⟨tl [(2, .ptr 0 0), (4, .ptr 1 0), (5, .int .i64 0), (6, .ptr 2 0), (7, .int .i64 (i + 1 : Nat))], ⟨[some [.int .i64 n, .int .u32 e], some [.int .i64 0, .int .u32 0, .int .u32 0, .sl [] true], some [.int .i64 n, .int .u32 e, .int .u32 l, .ref 3 2 0 (i + 1) .full], some (flatA (frsA (List.replicate (i + 1) ⟨1, n⟩)))]⟩⟩
theorem reps_snoc (k : Nat) (x : Fr) : flatA (frsA (List.replicate k x)) ++ [.int .i64 x.p, .int .i64 x.q] = flatA (frsA (List.replicate (k + 1) x)) := by
  rw [List.replicate_succ', flatA_append]; rfl
end Go.Proofs.YtkgodhdpcomjbaaAi
end

section
/- Contracts: bits of edges; graphs that are made. -/
namespace Go.Proofs.YtkgodhdpcomjbaaAi
open Go Go.RowKit
set_option linter.unusedVariables false
set_option linter.unusedSimpArgs false
set_option maxRecDepth 20000
variable {P : Program}

def bitI (i j : Nat) : Nat := if i < j then j * (j - 1) / 2 + i else i * (i - 1) / 2 + j
noncomputable def sp_bit : List AV → Option (AV) := pf (ι := (Int) × (Int)) (α := AV) (fun ⟨i, j⟩ => (0 ≤ i ∧ i ≤ 5) ∧ (0 ≤ j ∧ j ≤ 5)) (fun ⟨i, j⟩ => [.int .i64 i, .int .i64 j]) (fun ⟨i, j⟩ => .int .u32 (2 ^ bitI i.toNat j.toNat))
theorem sp_bit_eq (i j : Int) (h : (0 ≤ i ∧ i ≤ 5) ∧ (0 ≤ j ∧ j ≤ 5)) : sp_bit [.int .i64 i, .int .i64 j] = some (.int .u32 (2 ^ bitI i.toNat j.toNat)) := by
  unfold sp_bit
  exact pf_eq (ι := (Int) × (Int)) (α := AV) (i, j) h (by rintro ⟨i', j'⟩ _ e; simp_all [Int.natCast_inj])
theorem q_impl_bit : QP PP 145 sp_bit := by
  refine QP_pf (fun i h => ?_) fun i h => ?_
  · obtain ⟨i, j⟩ := i; exact ⟨by first | rfl | simp, by first | rfl | simp⟩
  obtain ⟨i, j⟩ := i
  replace h : (0 ≤ i ∧ i ≤ 5) ∧ (0 ≤ j ∧ j ≤ 5) := h
  refine P_code (Quiet.q1 q_impl_pairs Quiet.nil) hmix k_impl_bit rfl ?_ ?_
  · first | rfl | simp
  show wpc 0 PP _ c_impl_bit (initSt [.int .i64 i, .int .i64 j] .nil) (endP r_impl_bit (.int .u32 (2 ^ bitI i.toNat j.toNat)))
  obtain ⟨⟨i0, i1⟩, j0, j1⟩ := h
  have hj : j = 0 ∨ j = 1 ∨ j = 2 ∨ j = 3 ∨ j = 4 ∨ j = 5 := by omega
  have hi : i = 0 ∨ i = 1 ∨ i = 2 ∨ i = 3 ∨ i = 4 ∨ i = 5 := by omega
  rcases hi with rfl | rfl | rfl | rfl | rfl | rfl <;> rcases hj with rfl | rfl | rfl | rfl | rfl | rfl <;> simp -dsimp -implicitDefEqProofs [c_impl_bit, r_impl_bit, sp_pairs_eq, pI0, pI1, pI2, pI3, pI4, pI5, bitI, IntKind.wrap, IntKind.bits, IntKind.signed]
/-! ### a call that sees some objects, of which nothing is known here -/
def ClosedH (os : List (Option (List AV))) : Prop := ∀ b cs, hget os b = some cs → ltL os.length cs = true
theorem hset_pre (os r : List (Option (List AV))) (i : Nat) (x : Option (List AV)) : hset (os ++ r) (os.length + i) x = os ++ hset r i x := by
  induction os with
  | nil => simp
  | cons o os ih =>
    simp only [List.cons_append, List.length_cons, hset]
    rw [if_neg (by omega), show os.length + 1 + i - 1 = os.length + i by omega, ih]
theorem hset_pre0 (os r : List (Option (List AV))) (x : Option (List AV)) : hset (os ++ r) os.length x = os ++ hset r 0 x := hset_pre os r 0 x
theorem hget_pre (os r : List (Option (List AV))) (i : Nat) : hget (os ++ r) (os.length + i) = hget r i := by
  rw [hget_append, if_neg (by omega), show os.length + i - os.length = i by omega]
theorem hget_pre0 (os r : List (Option (List AV))) : hget (os ++ r) os.length = hget r 0 := hget_pre os r 0
theorem hsub_of {f : Nat → Nat} {n : Nat} {A : AHeap} : ∀ {l : List (Option (List AV))} {i : Nat}, (∀ b, b < l.length → f (i + b) < A.n) → (∀ b cs, hget l b = some cs → ltL n cs = true ∧ A (f (i + b)) = some (renL f cs)) → hsub f n A i l
  | [], i, _, _ => trivial
  | none :: r, i, h1, h2 => ⟨by simpa using h1 0 (by simp), hsub_of (fun b hb => by have := h1 (b + 1) (by simp; omega); rwa [show i + (b + 1) = i + 1 + b by omega] at this) (fun b cs hb => by have := h2 (b + 1) cs (by simpa [hget] using hb); rwa [show i + (b + 1) = i + 1 + b by omega] at this)⟩
  | some c :: r, i, h1, h2 => ⟨by simpa using h2 0 c (by simp [hget]), hsub_of (fun b hb => by have := h1 (b + 1) (by simp; omega); rwa [show i + (b + 1) = i + 1 + b by omega] at this) (fun b cs hb => by have := h2 (b + 1) cs (by simpa [hget] using hb); rwa [show i + (b + 1) = i + 1 + b by omega] at this)⟩
theorem hsub_pre {os r : List (Option (List AV))} {m : Nat} (ho : ClosedH os) (hm : os.length ≤ m) : hsub (fun b => b) m ⟨os ++ r⟩ 0 os := by
  refine hsub_of (fun b hb => ?_) fun b cs hb => ?_
  · simp [AHeap.n]; omega
  · have hlt := hget_lt hb
    rw [Nat.zero_add]
    refine ⟨ltL_mono hm _ (ho b cs hb), ?_⟩
    show hget (os ++ r) b = _
    rw [hget_append, if_pos hlt, renL_id, hb]
theorem hsub_append {f : Nat → Nat} {n : Nat} {A : AHeap} : ∀ (l k : List (Option (List AV))) (i : Nat), hsub f n A i l → hsub f n A (i + l.length) k → hsub f n A i (l ++ k)
  | [], k, i, _, h => h
  | none :: r, k, i, h1, h => ⟨h1.1, hsub_append r k (i + 1) h1.2 (by rw [List.length_cons, show i + (r.length + 1) = i + 1 + r.length by omega] at h; exact h)⟩
  | some c :: r, k, i, h1, h => ⟨h1.1, hsub_append r k (i + 1) h1.2 (by rw [List.length_cons, show i + (r.length + 1) = i + 1 + r.length by omega] at h; exact h)⟩
theorem Sub.pre {os r r' : List (Option (List AV))} {t : Nat → AV} {l : List (Nat × AV)} (ho : ClosedH os) (hs : hsub (fun b => b) (os.length + r'.length) ⟨os ++ r⟩ os.length r') (ht : ∀ p ∈ l, p.2.lt (os.length + r'.length) = true ∧ t p.1 = p.2) : Sub os.length ⟨t, ⟨os ++ r⟩⟩ ⟨tl l, ⟨os ++ r'⟩⟩ := by
  have e : (os ++ r').length = os.length + r'.length := by simp
  refine Sub.keep (by simp) ?_ (by rw [e]; exact ht)
  rw [e]
  exact hsub_append _ _ _ (hsub_pre ho (by omega)) (by rw [Nat.zero_add]; exact hs)
theorem View.pre {os r : List (Option (List AV))} (ho : ClosedH os) : View (fun b => b) ⟨os ++ r⟩ ⟨os⟩ := by
  refine ⟨fun b hb => ?_, fun b cs hb => ?_, fun b b' cs cs' _ _ e => e⟩
  · have hb : b < os.length := hb
    simp [AHeap.n]; omega
  · have hlt := hget_lt hb
    refine ⟨ho b cs hb, ?_⟩
    show hget (os ++ r) b = _
    rw [hget_append, if_pos hlt, renL_id]
    exact hb
mutual
theorem ren_same {n : Nat} {g : Nat → Nat} (hg : ∀ b, b < n → g b = b) : ∀ x : AV, x.lt n = true → x.ren g = x
  | .ptr b o, h => by rw [AV.ren, hg b (of_decide_eq_true h)]
  | .ref b e o m t, h => by rw [AV.ren, hg b (of_decide_eq_true h)]
  | .ep x i o, h => by rw [AV.ren, ren_same hg x h]
  | .fn f cs, h => by rw [AV.ren, renL_same hg cs h]
  | .agg cs, h => by rw [AV.ren, renL_same hg cs h]
  | .tup cs, h => by rw [AV.ren, renL_same hg cs h]
  | .bool _, _ | .int _ _, _ | .str _, _ | .sl _ _, _ | .nilp, _ | .nilf, _ | .nili, _ | .iface, _ | .mv _ _, _ | .any, _ => rfl
theorem renL_same {n : Nat} {g : Nat → Nat} (hg : ∀ b, b < n → g b = b) : ∀ cs : List AV, ltL n cs = true → renL g cs = cs
  | [], _ => rfl
  | x :: r, h => by
    simp only [ltL, Bool.and_eq_true] at h
    rw [renL, ren_same hg x h.1, renL_same hg r h.2]
end
theorem upd_pre (g : Nat → Nat) (os r : List (Option (List AV))) (ho : ClosedH os) (hg : ∀ b, b < os.length → g b = b) : upd (fun b => b) g 0 os os (os ++ r) = os ++ r := by
  have key : ∀ (a b : List (Option (List AV))), (∀ i cs, hget b i = some cs → renL g cs = cs) → upd (fun b => b) g a.length b b (a ++ b ++ r) = a ++ b ++ r := by
    intro a b
    induction b generalizing a with
    | nil => intro _; simp [upd]
    | cons o b ih =>
      intro h
      rw [upd]
      have h0 : (if o.isSome = true then hset (a ++ o :: b ++ r) a.length (o.map (renL g)) else a ++ o :: b ++ r) = (a ++ [o]) ++ b ++ r := by
        cases o with
        | none => simp
        | some c =>
          simp only [Option.isSome_some, if_true, Option.map_some, List.append_assoc, List.cons_append]
          rw [hset_pre0, hset, if_pos rfl, h 0 c (by simp [hget])]
          simp
      rw [h0]
      have := ih (a ++ [o]) (fun i cs hi => h (i + 1) cs (by simpa [hget] using hi))
      simp only [List.length_append, List.length_cons, List.length_nil] at this
      rw [this]
      simp
  have := key [] os (fun i cs hi => renL_same hg cs (ho i cs hi))
  simpa using this
/-- A call that sees some objects and leaves them as they are. -/
theorem T.sees {f : FuncId} {args : List AV} {os : List (Option (List AV))} {v : AV} (h : T P f args ⟨os⟩ fun r A' => r = v ∧ A' = ⟨os⟩) (ho : ClosedH os) (ha : ltL os.length args = true) (hv : v.lt 0 = true) (r : List (Option (List AV))) :
    T P f args ⟨os ++ r⟩ fun x A' => x = v ∧ A' = ⟨os ++ r⟩ := by
  have := h.embed (A := ⟨os ++ r⟩) (View.pre ho) ha
  rw [renL_id] at this
  refine this.mono ?_
  rintro x A1 ⟨r', A1', ⟨rfl, rfl⟩, rfl, rfl⟩
  refine ⟨ren_low _ _ hv, AHeap.ext' ?_⟩
  exact upd_pre _ os r ho (fun b hb => by simp [extN, AHeap.n, hb])
end Go.Proofs.YtkgodhdpcomjbaaAi
end

section
/- Contracts: graphs that are made. -/
namespace Go.Proofs.YtkgodhdpcomjbaaAi
open Go Go.RowKit
set_option linter.unusedVariables false
set_option linter.unusedSimpArgs false
set_option maxRecDepth 20000

def rowE (J : Nat → Nat → Bool) (j : Nat) (e : Nat) : Nat → Nat
  | 0 => e
  | i + 1 => if J i j = true then rowE J j e i ||| 2 ^ bitI i j else rowE J j e i
def madeE (J : Nat → Nat → Bool) : Nat → Nat
  | 0 => 0
  | j + 1 => rowE J j (madeE J j) j
theorem bitI_lt {i j : Nat} (h : i < j) (hj : j < 5) : bitI i j < 10 := by
  unfold bitI
  rw [if_pos h]
  have h5 : j = 1 ∨ j = 2 ∨ j = 3 ∨ j = 4 := by omega
  rcases h5 with rfl | rfl | rfl | rfl <;> omega
theorem rowE_lt {J : Nat → Nat → Bool} {j e : Nat} (he : e < 1024) (hj : j < 5) : ∀ {i : Nat}, i ≤ j → rowE J j e i < 1024
  | 0, _ => he
  | i + 1, hi => by
    have h1 := rowE_lt (J := J) he hj (show i ≤ j by omega)
    rw [rowE]
    split
    · exact Nat.or_lt_two_pow (n := 10) h1 (Nat.pow_lt_pow_right (by omega) (bitI_lt (by omega) hj))
    · exact h1
theorem madeE_lt {J : Nat → Nat → Bool} : ∀ {n : Nat}, n ≤ 5 → madeE J n < 1024
  | 0, _ => by simp [madeE]
  | j + 1, hj => rowE_lt (madeE_lt (by omega)) (by omega) (Nat.le_refl _)

theorem orBit0 {a c : Nat} (ha : a < 1024) (hc : c < 1024) : IntKind.u32.wrap ((a % 2 ^ IntKind.u32.bits ||| ((c : Int) % 2 ^ IntKind.u32.bits).toNat : Nat)) = ((a ||| c : Nat) : Int) := by
  have e1 : a % 2 ^ IntKind.u32.bits = a := Nat.mod_eq_of_lt (by simp only [IntKind.bits]; omega)
  have e2 : ((c : Int) % 2 ^ IntKind.u32.bits).toNat = c := by
    rw [Int.emod_eq_of_lt (by omega) (by simp only [IntKind.bits]; omega)]
    simp
  rw [e1, e2]
  have := Nat.or_lt_two_pow (n := 10) ha hc
  exact wrap32 (by omega) (by omega)
theorem orBit {a b : Nat} (ha : a < 1024) (hb : b < 10) : IntKind.u32.wrap ((a % 2 ^ IntKind.u32.bits ||| ((2 : Int) ^ b % 2 ^ IntKind.u32.bits).toNat : Nat)) = ((a ||| 2 ^ b : Nat) : Int) := by
  have e : (2 : Int) ^ b = ((2 ^ b : Nat) : Int) := by simp
  rw [e]
  exact orBit0 ha (Nat.pow_lt_pow_right (n := 10) (by omega) hb)
theorem injB_id (n : Nat) : injB (fun b => b) n = true := by
  simp only [injB, List.all_eq_true]
  intro i _ j _
  by_cases h : i = j <;> simp [h]
theorem T_made {g : FuncId} {caps : List AV} {os : List (Option (List AV))} (J : Nat → Nat → Bool) (n : Nat) (hn : n ≤ 5) (ho : ClosedH os) (hc : ltL os.length caps = true)
    (hf : ∀ i j, i < j → j < n → T PP g ([.int .i64 i, .int .i64 j] ++ caps) ⟨os⟩ fun r A' => r = .bool (J i j) ∧ A' = ⟨os⟩) :
    T PP 80 [.int .i64 n, .fn g caps] ⟨os⟩ fun r A' => r = .agg [.int .i64 n, .int .u32 (madeE J n)] ∧ A' = ⟨os⟩ := by
  refine H_code (Quiet.q1 q_impl_bit Quiet.nil) hmix k_impl_made rfl (fun b => b) (Nat.le_refl _) (fun _ _ => rfl) (injB_id _) (by rfl) ?_
  show wpc os.length PP _ c_impl_made (initSt [.int .i64 n, .fn g caps] ⟨os⟩) _
  have k1 : ¬ (os.length + 1 < os.length) := by omega
  simp -dsimp -implicitDefEqProofs [c_impl_made, r_impl_made, hset_pre0, hset_pre, k1]
  refine wpLoop_st (fun (j : Nat) => ⟨tl [(0, .int .i64 n), (1, .fn g caps), (4, .ptr os.length 0), (5, .ptr (os.length + 1) 0), (10, .int .i64 n), (11, .int .i64 j)], ⟨os ++ [some [.int .i64 0, .int .u32 0], some [.int .i64 n, .int .u32 (madeE J j)]]⟩⟩) (fun j => j ≤ n) (fun j => n - j) 0 (by omega) (Sub.pre ho (by simp [hsub, k1, madeE]) (by simp [ltL_mono (Nat.le_add_right os.length 2) _ hc])) ?_
  intro j hj
  simp -dsimp -implicitDefEqProofs [hset_pre0, hset_pre, k1]
  refine brW_of (fun h => ?_) (fun h => ?_) <;> simp only [decide_eq_true_eq, decide_eq_false_iff_not] at h
  · have hw := wrapNat (i := j) (by omega)
    simp -dsimp -implicitDefEqProofs [k1, hw]
    refine wpLoop_st (fun (i : Nat) => ⟨tl [(0, .int .i64 n), (1, .fn g caps), (4, .ptr os.length 0), (5, .ptr (os.length + 1) 0), (10, .int .i64 n), (11, .int .i64 j), (6, .int .i64 j), (14, .int .i64 j), (15, .int .i64 i)], ⟨os ++ [some [.int .i64 0, .int .u32 0], some [.int .i64 n, .int .u32 (rowE J j (madeE J j) i)]]⟩⟩) (fun i => i ≤ j) (fun i => j - i) 0 (by omega) (Sub.pre ho (by simp [hsub, k1, rowE]) (by simp [ltL_mono (Nat.le_add_right os.length 2) _ hc])) ?_
    intro i hi
    simp -dsimp -implicitDefEqProofs [k1, hw]
    refine brW_of (fun h => ?_) (fun h => ?_) <;> simp only [decide_eq_true_eq, decide_eq_false_iff_not] at h
    · have hw := wrapNat (i := i) (by omega)
      simp -dsimp -implicitDefEqProofs [k1, hw]
      refine ((hf i j h (by omega)).sees ho (by simpa using hc) rfl _).mono ?_
      rintro r A' ⟨rfl, rfl⟩
      have hb := sp_bit_eq i j (by omega)
      cases hJ : J i j with
      | false =>
        simp -dsimp -implicitDefEqProofs [k1, hw]
        exact .mk (i + 1) (by omega) (by omega) (Sub.pre ho (by simp [hsub, k1, rowE, hJ]) (by simp [hw, ltL_mono (Nat.le_add_right os.length 2) _ hc]))
      | true =>
        simp -dsimp -implicitDefEqProofs [k1, hw, hb, hset_pre0, hset_pre]
        have he := orBit (rowE_lt (J := J) (madeE_lt (J := J) (n := j) (by omega)) (by omega) hi) (bitI_lt h (by omega))
        exact .mk (i + 1) (by omega) (by omega) (Sub.pre ho (by simp [hsub, k1, rowE, hJ, he]) (by simp [hw, ltL_mono (Nat.le_add_right os.length 2) _ hc]))
    · have : i = j := by omega
      subst this
      simp -dsimp -implicitDefEqProofs [k1, hw]
      exact .mk (i + 1) (by omega) (by omega) (Sub.pre ho (by simp [hsub, k1, madeE]) (by simp [hw, ltL_mono (Nat.le_add_right os.length 2) _ hc]))
  · have : j = n := by omega
    subst this
    simp -dsimp -implicitDefEqProofs [hset_pre0, hset_pre, k1, hsub_pre ho]

def yes (i j : Nat) : Bool := true
theorem made_yes : ∀ n : Nat, n ≤ 5 → madeE yes n = 2 ^ (n * (n - 1) / 2) - 1 := by decide
theorem ClosedH.nil : ClosedH [] := fun b cs h => by cases h
end Go.Proofs.YtkgodhdpcomjbaaAi
end

section
/- Edges of graphs as bits. -/
namespace Go.Proofs.YtkgodhdpcomjbaaAi
open Go Go.RowKit
set_option linter.unusedVariables false
set_option linter.unusedSimpArgs false

theorem or_step (c : Bool) (a b k : Nat) : (if c = true then a ||| 2 ^ b else a).testBit k = (a.testBit k || (c && decide (b = k))) := by
  cases c <;> simp [Nat.testBit_or, Nat.testBit_two_pow]
theorem bitI_c {i j : Nat} : bitI i j = bitI j i := by
  unfold bitI
  by_cases h : i < j
  · rw [if_pos h, if_neg (by omega)]
  · by_cases h2 : j < i
    · rw [if_neg h, if_pos h2]
    · have : i = j := by omega
      subst this; simp
theorem tri_step (j : Nat) : (j + 1) * j / 2 = j * (j - 1) / 2 + j := by
  cases j with
  | zero => rfl
  | succ j =>
    have h : (j + 1 + 1) * (j + 1) = (j + 1) * (j + 1 - 1) + (j + 1) * 2 := by
      rw [← Nat.mul_add, show j + 1 - 1 + 2 = j + 1 + 1 by omega, Nat.mul_comm]
    rw [h, Nat.add_mul_div_right _ _ (by omega)]
theorem tri_mono {i j : Nat} (h : i ≤ j) : i * (i - 1) / 2 ≤ j * (j - 1) / 2 := Nat.div_le_div_right (Nat.mul_le_mul h (by omega))
theorem bitI_inj {i j i' j' : Nat} (h : i < j) (h' : i' < j') (e : bitI i j = bitI i' j') : i = i' ∧ j = j' := by
  unfold bitI at e
  rw [if_pos h, if_pos h'] at e
  have key : ∀ a b : Nat, a < b → a * (a - 1) / 2 + a ≤ b * (b - 1) / 2 := by
    intro a b hab
    have := tri_mono (i := a + 1) (j := b) (by omega)
    rw [show a + 1 - 1 = a by omega, tri_step] at this
    exact this
  rcases Nat.lt_trichotomy j j' with hj | hj | hj
  · have := key j j' hj; omega
  · subst hj; omega
  · have := key j' j hj; omega
theorem rowE_bit (J : Nat → Nat → Bool) (j e k : Nat) : ∀ i, i ≤ j → ((rowE J j e i).testBit k = true ↔ (e.testBit k = true ∨ ∃ a, a < i ∧ J a j = true ∧ bitI a j = k))
  | 0, _ => by simp [rowE]
  | i + 1, h => by
    rw [rowE, or_step, Bool.or_eq_true, rowE_bit J j e k i (by omega), or_assoc]
    simp only [Bool.and_eq_true, decide_eq_true_eq]
    constructor
    · rintro (h1 | ⟨a, h1, h2⟩ | ⟨h1, h2⟩)
      · exact .inl h1
      · exact .inr ⟨a, by omega, h2⟩
      · exact .inr ⟨i, by omega, h1, h2⟩
    · rintro (h1 | ⟨a, h1, h2, h3⟩)
      · exact .inl h1
      · by_cases ha : a = i
        · subst ha; exact .inr (.inr ⟨h2, h3⟩)
        · exact .inr (.inl ⟨a, by omega, h2, h3⟩)
/-- The edges that are made. -/
theorem madeE_bit (J : Nat → Nat → Bool) (k : Nat) : ∀ n, (madeE J n).testBit k = true ↔ ∃ a b, a < b ∧ b < n ∧ J a b = true ∧ bitI a b = k
  | 0 => by simp [madeE]
  | n + 1 => by
    rw [madeE, rowE_bit J n _ k n (Nat.le_refl _), madeE_bit J k n]
    constructor
    · rintro (⟨a, b, h1, h2, h3⟩ | ⟨a, h1, h2⟩)
      · exact ⟨a, b, h1, by omega, h3⟩
      · exact ⟨a, n, h1, by omega, h2⟩
    · rintro ⟨a, b, h1, h2, h3⟩
      by_cases hb : b = n
      · subst hb; exact .inr ⟨a, h1, h3⟩
      · exact .inl ⟨a, b, h1, by omega, h3⟩
theorem madeE_has (J : Nat → Nat → Bool) {n i j : Nat} (h : i < j) (hj : j < n) : (madeE J n).testBit (bitI i j) = J i j := by
  rw [Bool.eq_iff_iff, madeE_bit]
  constructor
  · rintro ⟨a, b, h1, h2, h3, h4⟩
    obtain ⟨rfl, rfl⟩ := bitI_inj h1 h h4
    exact h3
  · intro hJ
    exact ⟨i, j, h, hj, hJ, rfl⟩
/-- Each bit below is one of a pair. -/
theorem bit_pair {n k : Nat} (hk : k < n * (n - 1) / 2) : ∃ a b, a < b ∧ b < n ∧ bitI a b = k := by
  induction n with
  | zero => simp at hk
  | succ n ih =>
    rw [show n + 1 - 1 = n by omega, tri_step] at hk
    by_cases h : k < n * (n - 1) / 2
    · obtain ⟨a, b, h1, h2, h3⟩ := ih h
      exact ⟨a, b, h1, by omega, h3⟩
    · refine ⟨k - n * (n - 1) / 2, n, by omega, by omega, ?_⟩
      unfold bitI
      rw [if_pos (by omega)]
      omega
theorem bitI_tri {a b n : Nat} (h : a < b) (hb : b < n) : bitI a b < n * (n - 1) / 2 := by
  unfold bitI
  rw [if_pos h]
  have := tri_mono (i := b + 1) (j := n) (by omega)
  rw [show b + 1 - 1 = b by omega, tri_step] at this
  omega
theorem edges_ext {n e e' : Nat} (he : e < 2 ^ (n * (n - 1) / 2)) (he' : e' < 2 ^ (n * (n - 1) / 2)) (h : ∀ a b, a < b → b < n → e.testBit (bitI a b) = e'.testBit (bitI a b)) : e = e' := by
  apply Nat.eq_of_testBit_eq
  intro k
  by_cases hk : k < n * (n - 1) / 2
  · obtain ⟨a, b, h1, h2, rfl⟩ := bit_pair hk
    exact h a b h1 h2
  · rw [Nat.testBit_lt_two_pow (Nat.lt_of_lt_of_le he (Nat.pow_le_pow_right (by omega) (by omega))), Nat.testBit_lt_two_pow (Nat.lt_of_lt_of_le he' (Nat.pow_le_pow_right (by omega) (by omega)))]
theorem madeE_tri (J : Nat → Nat → Bool) (n : Nat) : madeE J n < 2 ^ (n * (n - 1) / 2) := by
  apply Nat.lt_of_not_le
  intro h
  obtain ⟨k, hk1, hk2⟩ := Nat.exists_ge_and_testBit_of_ge_two_pow h
  rw [madeE_bit] at hk2
  obtain ⟨a, b, h1, h2, _, h4⟩ := hk2
  have := bitI_tri h1 h2
  omega
theorem xor_made {n e : Nat} (he : e < 2 ^ (n * (n - 1) / 2)) : (2 ^ (n * (n - 1) / 2) - 1) ^^^ e = madeE (fun i j => !e.testBit (bitI i j)) n := by
  refine edges_ext (Nat.xor_lt_two_pow (by have := Nat.two_pow_pos (n * (n - 1) / 2); omega) he) (madeE_tri _ n) fun a b h1 h2 => ?_
  rw [madeE_has _ h1 h2, Nat.testBit_xor, Nat.testBit_two_pow_sub_one]
  simp [bitI_tri h1 h2]
end Go.Proofs.YtkgodhdpcomjbaaAi
end

section
/- Contracts of functions that take functions. -/
namespace Go.Proofs.YtkgodhdpcomjbaaAi
open Go Go.RowKit
set_option linter.unusedVariables false
set_option linter.unusedSimpArgs false
set_option maxRecDepth 20000
variable {P : Program}

theorem T.of_closed {f : FuncId} {args : List AV} {A : AHeap} {R : AV → AHeap → Prop} (he : Enters P f) (h : ClosedH A.l → ltL A.n args = true → T P f args A R) : T P f args A R := by
  refine ⟨he, fun B w0 σ w vs hG hb hs ha => (h (fun b cs e => ?_) ?_).2 B w0 σ w vs hG hb hs ha⟩
  · obtain ⟨c, cur, t, k1, k2, k3, k4, k5, k6⟩ := hs.own b cs e
    refine ltL_of fun x hx => ?_
    obtain ⟨j, hj⟩ := List.mem_iff_getElem?.1 hx
    obtain ⟨v, _, e2, _⟩ := k6 j x hj
    exact hs.lt_of x v e2
  · refine ltL_of fun x hx => ?_
    obtain ⟨j, hj⟩ := List.mem_iff_getElem?.1 hx
    have hlt : j < vs.length := by rw [← ha.1]; exact (List.getElem?_eq_some_iff.1 hj).1
    exact hs.lt_of x _ (ha.2 j x _ hj (List.getElem?_eq_getElem hlt))

theorem rowE_congr {J J' : Nat → Nat → Bool} {j e : Nat} : ∀ {i : Nat}, (∀ a, a < i → J a j = J' a j) → rowE J j e i = rowE J' j e i
  | 0, _ => rfl
  | i + 1, h => by rw [rowE, rowE, h i (by omega), rowE_congr (fun a ha => h a (by omega))]
theorem madeE_congr {J J' : Nat → Nat → Bool} : ∀ {n : Nat}, (∀ i j, i < j → j < n → J i j = J' i j) → madeE J n = madeE J' n
  | 0, _ => rfl
  | n + 1, h => by rw [madeE, madeE, madeE_congr (fun i j hi hj => h i j hi (by omega)), rowE_congr (fun a ha => h a n ha (by omega))]

def yesOf (sp : List AV → AHeap → Option (AV × AHeap)) (args : List AV) (A : AHeap) : Bool := match sp args A with
  | some (.bool b, _) => b
  | _ => false
open Classical in
noncomputable def spMade (g : FuncId) (sp : List AV → AHeap → Option (AV × AHeap)) : List AV → AHeap → Option (AV × AHeap)
  | [.int .i64 n, .fn g' caps], A => if g' = g ∧ 0 ≤ n ∧ n ≤ 5 ∧ ∀ i j : Nat, i < j → j < n.toNat → sp ([.int .i64 i, .int .i64 j] ++ caps) A = some (.bool (yesOf sp ([.int .i64 i, .int .i64 j] ++ caps) A), A)
      then some (.agg [.int .i64 n, .int .u32 (madeE (fun i j => yesOf sp ([.int .i64 i, .int .i64 j] ++ caps) A) n.toNat)], A) else none
  | _, _ => none
theorem spMade_eq {g : FuncId} {sp : List AV → AHeap → Option (AV × AHeap)} (J : Nat → Nat → Bool) {n : Int} {caps : List AV} {A : AHeap} (hn : 0 ≤ n ∧ n ≤ 5) (h : ∀ i j : Nat, i < j → j < n.toNat → sp ([.int .i64 i, .int .i64 j] ++ caps) A = some (.bool (J i j), A)) :
    spMade g sp [.int .i64 n, .fn g caps] A = some (.agg [.int .i64 n, .int .u32 (madeE J n.toNat)], A) := by
  have hy : ∀ i j : Nat, i < j → j < n.toNat → yesOf sp ([.int .i64 i, .int .i64 j] ++ caps) A = J i j := by
    intro i j hi hj
    unfold yesOf
    rw [h i j hi hj]
  unfold spMade
  dsimp only
  rw [if_pos ⟨rfl, hn.1, hn.2, fun i j hi hj => by rw [hy i j hi hj]; exact h i j hi hj⟩, madeE_congr hy]
theorem QE_made {g : FuncId} {sp : List AV → AHeap → Option (AV × AHeap)} (hg : QE PP g sp) : QE PP 80 (spMade g sp) := by
  intro args A r A1 e
  unfold spMade at e
  split at e
  · rename_i n g' caps
    split at e
    · rename_i hc
      obtain ⟨rfl, h0, h5, hJ⟩ := hc
      injection e with e
      injection e with e1 e2
      subst e1; subst e2
      obtain ⟨m, rfl⟩ := Int.eq_ofNat_of_zero_le h0
      refine T.of_closed (T_made (g := g') (caps := []) (os := []) yes 0 (by omega) ClosedH.nil rfl (fun i j _ hj => absurd hj (Nat.not_lt_zero _))).1 fun ho hl => ?_
      exact T_made (os := A.l) _ m (by omega) ho (by simpa [ltL, AV.lt] using hl) fun i j hi hj => hg _ _ _ _ (hJ i j hi hj)
    · cases e
  · cases e
end Go.Proofs.YtkgodhdpcomjbaaAi
end

section
/- Contracts: the graph with all edges. -/
namespace Go.Proofs.YtkgodhdpcomjbaaAi
open Go Go.RowKit
set_option linter.unusedVariables false
set_option linter.unusedSimpArgs false
set_option maxRecDepth 20000

theorem tri_pow {n : Int} (h : 0 ≤ n ∧ n ≤ 5) : n = 0 ∨ n = 1 ∨ n = 2 ∨ n = 3 ∨ n = 4 ∨ n = 5 := by omega
def compR (n : Int) : AV := if 0 ≤ n ∧ n ≤ 5 then .tup [.agg [.int .i64 n, .int .u32 (2 ^ (n.toNat * (n.toNat - 1) / 2) - 1 : Nat)], .int .i64 0] else .tup [.agg [.int .i64 0, .int .u32 0], .int .i64 2]
@[simp] theorem compR_lt (n : Int) (k : Nat) : (compR n).lt k = true := by unfold compR; split <;> rfl
noncomputable def sp_CompleteGraph : List AV → Option (AV) := pf (ι := (Int)) (α := AV) (fun n => True) (fun n => [.int .i64 n]) (fun n => compR n)
theorem sp_CompleteGraph_eq (n : Int) : sp_CompleteGraph [.int .i64 n] = some (compR n) := by
  unfold sp_CompleteGraph
  exact pf_eq (ι := (Int)) (α := AV) n trivial (by rintro n' _ e; simp_all [Int.natCast_inj])
attribute [simp] sp_CompleteGraph_eq
theorem q_spec_CompleteGraph : QP PP 130 sp_CompleteGraph := by
  refine QP_pf (fun n h => ?_) fun n h => ?_
  · exact ⟨by first | rfl | simp, by first | rfl | simp⟩
  replace h : True := h
  refine P_code (Quiet.q1 q_spec_l00In (Quiet.q1 q_spec_l01Bits Quiet.nil)) hmix k_spec_CompleteGraph rfl ?_ ?_
  · first | rfl | simp
  show wpc 0 PP _ c_spec_CompleteGraph (initSt [.int .i64 n] .nil) (endP r_spec_CompleteGraph (compR n))
  by_cases hn : 0 ≤ n ∧ n ≤ 5
  · have hr : compR n = .tup [.agg [.int .i64 n, .int .u32 (2 ^ (n.toNat * (n.toNat - 1) / 2) - 1 : Nat)], .int .i64 0] := if_pos hn
    rw [hr]
    rcases tri_pow hn with rfl | rfl | rfl | rfl | rfl | rfl <;> simp -dsimp -implicitDefEqProofs [c_spec_CompleteGraph, r_spec_CompleteGraph, sp_pairs_eq, pI0, pI1, pI2, pI3, pI4, pI5, IntKind.wrap, IntKind.bits, IntKind.signed]
  · have hr : compR n = .tup [.agg [.int .i64 0, .int .u32 0], .int .i64 2] := if_neg hn
    rw [hr]
    have hv : (decide (0 ≤ n) && decide (n ≤ 5)) = false := by simpa using hn
    simp -dsimp -implicitDefEqProofs [c_spec_CompleteGraph, r_spec_CompleteGraph, hv]

end Go.Proofs.YtkgodhdpcomjbaaAi
end

section
/- MADE BY PROGRAM (wip/tools/gen.py): the abstract code of functions. -/
namespace Go.Proofs.YtkgodhdpcomjbaaAi
open Go AC AOp Opd
set_option linter.unusedVariables false
set_option maxRecDepth 100000
def c_impl_Graph_has : AC := seq (reg [⟨(some 3), box 2 (t 0), none⟩, ⟨(some 6), mv (c (.bool false)), none⟩]) (seq (reg [⟨(some 7), fad (t 3) 1, none⟩, ⟨(some 8), ld (t 7) 1 false, none⟩, ⟨(some 9), mv (t 1), none⟩, ⟨(some 10), mv (t 2), none⟩, ⟨(some 11), callq (c (.fn 145 [])) [t 9, t 10], none⟩, ⟨(some 12), bin .and (t 8) (t 11), none⟩, ⟨(some 13), bin .neq (t 12) (c (.int .u32 0)), none⟩, ⟨(some 6), mv (t 13), none⟩]) (ret))
def r_impl_Graph_has : List ARes := [.tmp 6]
theorem k_impl_Graph_has : acLin Go.Proofs.Try.prog 134 3 (inQ [145] []) [⟨false, none, [], [], none⟩, ⟨false, some [0, 1, 2, 3, 4, 5, 6, 7], [], [], none⟩] = some (c_impl_Graph_has, r_impl_Graph_has) := by kernel_rfl
def c_impl_Graph_opposite_1 : AC := seq (reg [⟨(some 5), mv (c (.bool false)), none⟩]) (seq (reg [⟨(some 6), ld (t 2) 2 true, none⟩, ⟨(some 7), mv (t 0), none⟩, ⟨(some 8), mv (t 1), none⟩, ⟨(some 9), callq (c (.fn 134 [])) [t 6, t 7, t 8], none⟩, ⟨(some 10), un .not (t 9), none⟩, ⟨(some 5), mv (t 10), none⟩]) (ret))
def r_impl_Graph_opposite_1 : List ARes := [.tmp 5]
theorem k_impl_Graph_opposite_1 : acLin Go.Proofs.Try.prog 133 3 (inQ [134] []) [] = some (c_impl_Graph_opposite_1, r_impl_Graph_opposite_1) := by kernel_rfl
def c_impl_Graph_opposite : AC := seq (reg [⟨(some 1), box 2 (t 0), none⟩, ⟨(some 2), alloc [.int .i64 0, .int .u32 0], none⟩]) (seq (reg [⟨(some 3), fad (t 1) 0, none⟩, ⟨(some 4), ld (t 3) 1 false, none⟩, ⟨(some 5), mkf 133 [t 1], none⟩, ⟨(some 6), calle (c (.fn 80 [])) [t 4, t 5] [], none⟩, ⟨none, st (t 2) 2 (t 6), none⟩]) (ret))
def r_impl_Graph_opposite : List ARes := [.cell 2 2 true]
theorem k_impl_Graph_opposite : acLin Go.Proofs.Try.prog 66 1 (inQ [] [80]) [] = some (c_impl_Graph_opposite, r_impl_Graph_opposite) := by kernel_rfl
def c_spec_OppositeGraph : AC := seq (reg [⟨(some 1), box 2 (t 0), none⟩, ⟨(some 2), alloc [.int .i64 0, .int .u32 0], none⟩, ⟨(some 3), mv (c (.int .i64 0)), none⟩]) (seq (seq (reg [⟨(some 6), ld (t 1) 2 true, none⟩, ⟨(some 7), callq (c (.fn 68 [])) [t 6], none⟩, ⟨(some 8), un .not (t 7), none⟩]) (cond (t 8) (seq (reg [⟨(some 9), bld [.int .i64 0, .int .u32 0] [], none⟩, ⟨none, st (t 2) 2 (t 9), none⟩, ⟨(some 3), mv (c (.int .i64 1)), none⟩]) (ret)) (skip))) (seq (reg [⟨(some 11), fad (t 1) 0, none⟩, ⟨(some 12), ld (t 11) 1 false, none⟩, ⟨(some 13), callq (c (.fn 130 [])) [t 12], none⟩, ⟨(some 10), mv (t 13), none⟩, ⟨(some 14), ext (t 10) 0, none⟩, ⟨(some 15), ext (t 10) 1, none⟩, ⟨(some 4), alloc [.int .i64 0, .int .u32 0], none⟩, ⟨none, st (t 4) 2 (t 14), none⟩, ⟨(some 5), mv (t 15), none⟩]) (seq (reg [⟨(some 16), fad (t 1) 0, none⟩, ⟨(some 17), ld (t 16) 1 false, none⟩, ⟨(some 18), fad (t 4) 1, none⟩, ⟨(some 19), ld (t 18) 1 false, none⟩, ⟨(some 20), fad (t 1) 1, none⟩, ⟨(some 21), ld (t 20) 1 false, none⟩, ⟨(some 22), bin .xor (t 19) (t 21), none⟩, ⟨(some 23), bld [.int .i64 0, .int .u32 0] [(0, 1, t 17), (1, 1, t 22)], none⟩, ⟨none, st (t 2) 2 (t 23), none⟩, ⟨(some 3), mv (c (.int .i64 0)), none⟩]) (ret))))
def r_spec_OppositeGraph : List ARes := [.cell 2 2 true, .tmp 3]
theorem k_spec_OppositeGraph : acLin Go.Proofs.Try.prog 63 1 (inQ [68, 130] []) [] = some (c_spec_OppositeGraph, r_spec_OppositeGraph) := by kernel_rfl
def c_spec_l07Copy : AC := seq (reg [⟨(some 2), alloc [.int .i64 0, .int .u32 0, .int .u32 0, .sl [] true], none⟩]) (seq (reg [⟨(some 3), mv (t 0), none⟩, ⟨(some 4), nilc (t 3), none⟩, ⟨(some 5), fad (t 4) 0, none⟩, ⟨(some 6), ld (t 5) 2 true, none⟩, ⟨(some 7), mv (t 0), none⟩, ⟨(some 8), nilc (t 7), none⟩, ⟨(some 9), fad (t 8) 2, none⟩, ⟨(some 10), ld (t 9) 1 false, none⟩, ⟨(some 12), mv (t 0), none⟩, ⟨(some 13), nilc (t 12), none⟩, ⟨(some 14), fad (t 13) 3, none⟩, ⟨(some 15), ld (t 14) 1 false, none⟩, ⟨(some 11), bsl 2 0 [.int .i64 0, .int .i64 0] [], none⟩, ⟨(some 16), appc 2 16 (t 11) (t 15), none⟩, ⟨(some 17), bld [.int .i64 0, .int .u32 0, .int .u32 0, .sl [] true] [(0, 2, t 6), (2, 1, t 10), (3, 1, t 16)], none⟩, ⟨none, st (t 2) 4 (t 17), none⟩]) (ret))
def r_spec_l07Copy : List ARes := [.cell 2 4 true]
theorem k_spec_l07Copy : acLin Go.Proofs.Try.prog 62 1 (inQ [] []) [⟨false, none, [], [], none⟩, ⟨false, some [0, 1, 2, 3, 4, 5, 6, 7, 9, 10, 11, 12, 8, 13, 14, 15], [(13, [(c .nilf, 0, false)])], [], none⟩] = some (c_spec_l07Copy, r_spec_l07Copy) := by kernel_rfl
def c_slices_Clone_Simpl_Fraction_impl_Fraction : AC := seq (reg [⟨(some 2), mv (c (.sl [] true)), none⟩]) (seq (seq (reg [⟨(some 3), mv (t 0), none⟩, ⟨(some 4), eqn false (t 3), none⟩]) (cond (t 4) (seq (reg [⟨(some 2), mv (c (.sl [] true)), none⟩]) (ret)) (skip))) (seq (reg [⟨(some 5), bsl 2 0 [.int .i64 0, .int .i64 0] [], none⟩, ⟨(some 6), mv (t 0), none⟩, ⟨(some 7), app 2 16 (t 5) (t 6), none⟩, ⟨(some 2), mv (t 7), none⟩]) (ret)))
def r_slices_Clone_Simpl_Fraction_impl_Fraction : List ARes := [.tmp 2]
theorem k_slices_Clone_Simpl_Fraction_impl_Fraction : acLin Go.Proofs.Try.prog 67 1 (inQ [] []) [] = some (c_slices_Clone_Simpl_Fraction_impl_Fraction, r_slices_Clone_Simpl_Fraction_impl_Fraction) := by kernel_rfl
def c_spec_OppositePattern : AC := seq (reg [⟨(some 1), box 4 (t 0), none⟩, ⟨(some 2), alloc [.int .i64 0, .int .u32 0, .int .u32 0, .sl [] true], none⟩, ⟨(some 3), mv (c (.int .i64 0)), none⟩]) (seq (seq (reg [⟨(some 5), calle (c (.fn 61 [])) [t 1] [], none⟩, ⟨(some 6), un .not (t 5), none⟩]) (cond (t 6) (seq (reg [⟨(some 7), bld [.int .i64 0, .int .u32 0, .int .u32 0, .sl [] true] [], none⟩, ⟨none, st (t 2) 4 (t 7), none⟩, ⟨(some 3), mv (c (.int .i64 1)), none⟩]) (ret)) (skip))) (seq (reg [⟨(some 8), calle (c (.fn 62 [])) [t 1] [], none⟩, ⟨(some 4), alloc [.int .i64 0, .int .u32 0, .int .u32 0, .sl [] true], none⟩, ⟨none, st (t 4) 4 (t 8), none⟩]) (seq (reg [⟨(some 10), fad (t 1) 0, none⟩, ⟨(some 11), ld (t 10) 2 true, none⟩, ⟨(some 12), callq (c (.fn 63 [])) [t 11], none⟩, ⟨(some 9), mv (t 12), none⟩, ⟨(some 13), ext (t 9) 0, none⟩, ⟨(some 14), ext (t 9) 1, none⟩, ⟨(some 15), fad (t 4) 0, none⟩, ⟨none, st (t 15) 2 (t 13), none⟩]) (seq (reg [⟨(some 16), fad (t 1) 0, none⟩, ⟨(some 17), fad (t 16) 0, none⟩, ⟨(some 18), ld (t 17) 1 false, none⟩, ⟨(some 19), conv .u64 (t 18), none⟩, ⟨(some 20), bin .shl (c (.int .i64 1)) (t 19), none⟩, ⟨(some 21), bin .sub (t 20) (c (.int .i64 1)), none⟩, ⟨(some 22), conv .u32 (t 21), none⟩, ⟨(some 23), fad (t 1) 2, none⟩, ⟨(some 24), ld (t 23) 1 false, none⟩, ⟨(some 25), bin .xor (t 22) (t 24), none⟩, ⟨(some 26), fad (t 4) 2, none⟩, ⟨none, st (t 26) 1 (t 25), none⟩]) (seq (reg [⟨(some 27), ld (t 4) 4 true, none⟩, ⟨none, st (t 2) 4 (t 27), none⟩, ⟨(some 3), mv (c (.int .i64 0)), none⟩]) (ret))))))
def r_spec_OppositePattern : List ARes := [.cell 2 4 true, .tmp 3]
theorem k_spec_OppositePattern : acLin Go.Proofs.Try.prog 15 1 (inQ [63] [61, 62]) [] = some (c_spec_OppositePattern, r_spec_OppositePattern) := by kernel_rfl
def c_impl_OppositePattern : AC := seq (reg [⟨(some 1), box 4 (t 0), none⟩, ⟨(some 2), alloc [.int .i64 0, .int .u32 0, .int .u32 0, .sl [] true], none⟩, ⟨(some 3), mv (c (.int .i64 0)), none⟩]) (seq (seq (reg [⟨(some 4), ld (t 1) 4 true, none⟩, ⟨(some 5), callq (c (.fn 65 [])) [t 4], none⟩, ⟨(some 6), un .not (t 5), none⟩]) (cond (t 6) (seq (reg [⟨(some 7), bld [.int .i64 0, .int .u32 0, .int .u32 0, .sl [] true] [], none⟩, ⟨none, st (t 2) 4 (t 7), none⟩, ⟨(some 3), mv (c (.int .i64 1)), none⟩]) (ret)) (skip))) (seq (reg [⟨(some 8), fad (t 1) 0, none⟩, ⟨(some 9), ld (t 8) 2 true, none⟩, ⟨(some 10), callq (c (.fn 66 [])) [t 9], none⟩, ⟨(some 11), fad (t 1) 2, none⟩, ⟨(some 12), ld (t 11) 1 false, none⟩, ⟨(some 13), un .xor (t 12), none⟩, ⟨(some 14), fad (t 1) 0, none⟩, ⟨(some 15), fad (t 14) 0, none⟩, ⟨(some 16), ld (t 15) 1 false, none⟩, ⟨(some 17), bin .shl (c (.int .u32 1)) (t 16), none⟩, ⟨(some 18), bin .sub (t 17) (c (.int .u32 1)), none⟩, ⟨(some 19), bin .and (t 13) (t 18), none⟩, ⟨(some 20), fad (t 1) 3, none⟩, ⟨(some 21), ld (t 20) 1 false, none⟩, ⟨(some 22), calle (c (.fn 67 [])) [t 21] [(c .nilf, 0, false)], none⟩, ⟨(some 23), bld [.int .i64 0, .int .u32 0, .int .u32 0, .sl [] true] [(0, 2, t 10), (2, 1, t 19), (3, 1, t 22)], none⟩, ⟨none, st (t 2) 4 (t 23), none⟩, ⟨(some 3), mv (c (.int .i64 0)), none⟩]) (ret)))
def r_impl_OppositePattern : List ARes := [.cell 2 4 true, .tmp 3]
theorem k_impl_OppositePattern : acLin Go.Proofs.Try.prog 17 1 (inQ [65, 66] [67]) [⟨false, none, [], [], none⟩, ⟨false, none, [], [], none⟩, ⟨false, none, [], [], none⟩, ⟨false, none, [], [], none⟩, ⟨false, some [0, 1, 2, 3, 4, 5, 6, 7, 8, 9, 10, 11, 12, 13, 14, 15, 16, 17], [(14, [(c .nilf, 0, false)])], [], none⟩] = some (c_impl_OppositePattern, r_impl_OppositePattern) := by kernel_rfl
def c_laws_FnExactOppositePattern : AC := seq (reg [⟨(some 1), box 4 (t 0), none⟩, ⟨(some 2), mv (c (.bool false)), none⟩]) (seq (reg [⟨(some 3), mv (c (.int .i64 1048576)), none⟩]) (seq (reg [⟨(some 14), ld (t 1) 4 true, none⟩, ⟨(some 15), mv (t 3), none⟩, ⟨(some 16), callq (c (.fn 14 [])) [t 14, t 15], none⟩, ⟨(some 3), mv (t 16), none⟩]) (seq (seq (reg [⟨(some 17), mv (t 3), none⟩, ⟨(some 18), bin .lss (t 17) (c (.int .i64 0)), none⟩]) (cond (t 18) (seq (reg [⟨(some 2), mv (c (.bool true)), none⟩]) (ret)) (skip))) (seq (reg [⟨(some 20), ld (t 1) 4 true, none⟩, ⟨(some 21), calle (c (.fn 16 [])) [t 20] [], none⟩, ⟨(some 22), calle (c (.fn 15 [])) [t 21] [], none⟩, ⟨(some 19), mv (t 22), none⟩, ⟨(some 23), ext (t 19) 0, none⟩, ⟨(some 24), ext (t 19) 1, none⟩, ⟨(some 4), alloc [.int .i64 0, .int .u32 0, .int .u32 0, .sl [] true], none⟩, ⟨none, st (t 4) 4 (t 23), none⟩, ⟨(some 5), mv (t 24), none⟩]) (seq (reg [⟨(some 25), ld (t 1) 4 true, none⟩, ⟨(some 26), calle (c (.fn 16 [])) [t 25] [], none⟩, ⟨(some 6), alloc [.int .i64 0, .int .u32 0, .int .u32 0, .sl [] true], none⟩, ⟨none, st (t 6) 4 (t 26), none⟩]) (seq (reg [⟨(some 28), ld (t 6) 4 true, none⟩, ⟨(some 29), calle (c (.fn 17 [])) [t 28] [], none⟩, ⟨(some 27), mv (t 29), none⟩, ⟨(some 30), ext (t 27) 0, none⟩, ⟨(some 31), ext (t 27) 1, none⟩, ⟨(some 7), alloc [.int .i64 0, .int .u32 0, .int .u32 0, .sl [] true], none⟩, ⟨none, st (t 7) 4 (t 30), none⟩, ⟨(some 8), mv (t 31), none⟩]) (seq (seq (reg [⟨(some 32), ld (t 7) 4 true, none⟩, ⟨(some 33), ld (t 4) 4 true, none⟩, ⟨(some 34), calle (c (.fn 18 [])) [t 32, t 33] [], none⟩, ⟨(some 35), un .not (t 34), none⟩, ⟨(some 36), mv (t 35), none⟩, ⟨(some 37), mv (t 8), some (36, false)⟩, ⟨(some 38), mv (t 5), some (36, false)⟩, ⟨(some 39), bin .neq (t 37) (t 38), some (36, false)⟩, ⟨(some 40), pick (t 36) (c (.bool true)) (t 39), none⟩]) (cond (t 40) (seq (reg [⟨(some 2), mv (c (.bool false)), none⟩]) (ret)) (skip))) (seq (seq (reg [⟨(some 41), ld (t 6) 4 true, none⟩, ⟨(some 42), ld (t 1) 4 true, none⟩, ⟨(some 43), calle (c (.fn 16 [])) [t 42] [(t 6, 4, true)], none⟩, ⟨(some 44), calle (c (.fn 18 [])) [t 41, t 43] [], none⟩, ⟨(some 45), un .not (t 44), none⟩]) (cond (t 45) (seq (reg [⟨(some 2), mv (c (.bool false)), none⟩]) (ret)) (skip))) (seq (reg [⟨(some 9), mv (c (.int .i64 1)), none⟩]) (seq (reg [⟨(some 46), ld (t 6) 4 true, none⟩, ⟨(some 47), mv (t 9), none⟩, ⟨(some 48), calle (c (.fn 19 [])) [t 46, t 47] [], none⟩, ⟨(some 9), mv (t 48), none⟩]) (seq (seq (reg [⟨(some 49), mv (t 9), none⟩, ⟨(some 50), bin .lss (t 49) (c (.int .i64 0)), none⟩, ⟨(some 51), mv (t 50), none⟩, ⟨(some 52), ld (t 7) 4 true, some (51, false)⟩, ⟨(some 53), ld (t 4) 4 true, some (51, false)⟩, ⟨(some 54), calle (c (.fn 18 [])) [t 52, t 53] [], some (51, false)⟩, ⟨(some 55), un .not (t 54), some (51, false)⟩, ⟨(some 56), pick (t 51) (c (.bool true)) (t 55), none⟩, ⟨(some 57), mv (t 56), none⟩, ⟨(some 58), mv (t 8), some (57, false)⟩, ⟨(some 59), mv (t 5), some (57, false)⟩, ⟨(some 60), bin .neq (t 58) (t 59), some (57, false)⟩, ⟨(some 61), pick (t 57) (c (.bool true)) (t 60), none⟩]) (cond (t 61) (seq (reg [⟨(some 2), mv (c (.bool false)), none⟩]) (ret)) (skip))) (seq (reg [⟨(some 10), mv (c (.int .i64 1)), none⟩]) (seq (reg [⟨(some 62), ld (t 7) 4 true, none⟩, ⟨(some 63), mv (t 10), none⟩, ⟨(some 64), calle (c (.fn 19 [])) [t 62, t 63] [], none⟩, ⟨(some 10), mv (t 64), none⟩]) (seq (reg [⟨(some 11), mv (c (.int .i64 1)), none⟩]) (seq (reg [⟨(some 65), ld (t 7) 4 true, none⟩, ⟨(some 66), mv (t 11), none⟩, ⟨(some 67), calle (c (.fn 20 [])) [t 65, t 66] [], none⟩, ⟨(some 11), mv (t 67), none⟩]) (seq (seq (reg [⟨(some 68), mv (t 11), none⟩, ⟨(some 69), bin .lss (t 68) (c (.int .i64 0)), none⟩]) (cond (t 69) (seq (reg [⟨(some 2), mv (c (.bool false)), none⟩]) (ret)) (skip))) (seq (seq (reg [⟨(some 70), mv (t 11), none⟩, ⟨(some 71), mv (t 10), none⟩, ⟨(some 72), bin .neq (t 70) (t 71), none⟩]) (cond (t 72) (seq (reg [⟨(some 2), mv (c (.bool false)), none⟩]) (ret)) (skip))) (seq (reg [⟨(some 74), ld (t 1) 4 true, none⟩, ⟨(some 75), calle (c (.fn 16 [])) [t 74] [], none⟩, ⟨(some 76), calle (c (.fn 17 [])) [t 75] [], none⟩, ⟨(some 73), mv (t 76), none⟩, ⟨(some 77), ext (t 73) 0, none⟩, ⟨(some 78), ext (t 73) 1, none⟩, ⟨(some 12), alloc [.int .i64 0, .int .u32 0, .int .u32 0, .sl [] true], none⟩, ⟨none, st (t 12) 4 (t 77), none⟩, ⟨(some 13), mv (t 78), none⟩]) (seq (seq (reg [⟨(some 79), ld (t 12) 4 true, none⟩, ⟨(some 80), ld (t 4) 4 true, none⟩, ⟨(some 81), calle (c (.fn 18 [])) [t 79, t 80] [], none⟩, ⟨(some 82), un .not (t 81), none⟩, ⟨(some 83), mv (t 82), none⟩, ⟨(some 84), mv (t 13), some (83, false)⟩, ⟨(some 85), mv (t 5), some (83, false)⟩, ⟨(some 86), bin .neq (t 84) (t 85), some (83, false)⟩, ⟨(some 87), pick (t 83) (c (.bool true)) (t 86), none⟩]) (cond (t 87) (seq (reg [⟨(some 2), mv (c (.bool false)), none⟩]) (ret)) (skip))) (seq (reg [⟨(some 11), mv (c (.int .i64 1)), none⟩]) (seq (reg [⟨(some 88), ld (t 7) 4 true, none⟩, ⟨(some 89), mv (t 11), none⟩, ⟨(some 90), calle (c (.fn 20 [])) [t 88, t 89] [], none⟩, ⟨(some 11), mv (t 90), none⟩]) (seq (seq (reg [⟨(some 91), mv (t 11), none⟩, ⟨(some 92), bin .lss (t 91) (c (.int .i64 0)), none⟩]) (cond (t 92) (seq (reg [⟨(some 2), mv (c (.bool false)), none⟩]) (ret)) (skip))) (seq (seq (reg [⟨(some 93), mv (t 11), none⟩, ⟨(some 94), mv (t 10), none⟩, ⟨(some 95), bin .neq (t 93) (t 94), none⟩]) (cond (t 95) (seq (reg [⟨(some 2), mv (c (.bool false)), none⟩]) (ret)) (skip))) (seq (reg [⟨(some 2), mv (c (.bool true)), none⟩]) (ret)))))))))))))))))))))))))
def r_laws_FnExactOppositePattern : List ARes := [.tmp 2]
theorem k_laws_FnExactOppositePattern : acLin Go.Proofs.Try.prog 3 1 (inQ [14] [15, 16, 17, 18, 19, 20]) [⟨false, none, [], [], none⟩, ⟨false, none, [], [], none⟩, ⟨false, none, [], [], none⟩, ⟨false, none, [], [], none⟩, ⟨false, none, [], [], none⟩, ⟨false, none, [], [], none⟩, ⟨false, none, [], [], none⟩, ⟨false, none, [], [], none⟩, ⟨false, none, [], [], none⟩, ⟨false, none, [], [], none⟩, ⟨false, none, [], [], none⟩, ⟨false, none, [], [], none⟩, ⟨false, some [0, 1, 2, 3, 4], [(2, [(t 6, 4, true)])], [], none⟩] = some (c_laws_FnExactOppositePattern, r_laws_FnExactOppositePattern) := by kernel_rfl
end Go.Proofs.YtkgodhdpcomjbaaAi
end

section
/- Contracts: edges of graphs; opposite graphs; copies of lists. -/
namespace Go.Proofs.YtkgodhdpcomjbaaAi
open Go Go.RowKit
set_option linter.unusedVariables false
set_option linter.unusedSimpArgs false
set_option maxRecDepth 20000

theorem andBit0 {a c : Nat} (ha : a < 4294967296) (hc : c < 1024) : IntKind.u32.wrap ((a % 2 ^ IntKind.u32.bits &&& ((c : Int) % 2 ^ IntKind.u32.bits).toNat : Nat)) = ((a &&& c : Nat) : Int) := by
  have e1 : a % 2 ^ IntKind.u32.bits = a := Nat.mod_eq_of_lt (by simp only [IntKind.bits]; omega)
  have e2 : ((c : Int) % 2 ^ IntKind.u32.bits).toNat = c := by
    rw [Int.emod_eq_of_lt (by omega) (by simp only [IntKind.bits]; omega)]
    simp
  rw [e1, e2]
  have : a &&& c ≤ c := Nat.and_le_right
  exact wrap32 (by omega) (by omega)
theorem and_pow (a b : Nat) : a &&& 2 ^ b = if a.testBit b = true then 2 ^ b else 0 := by
  apply Nat.eq_of_testBit_eq
  intro k
  rw [Nat.testBit_and, Nat.testBit_two_pow]
  by_cases h : b = k
  · subst h
    cases a.testBit b <;> simp
  · cases a.testBit b <;> simp [h, Nat.testBit_two_pow]
theorem andBit {a b : Nat} (ha : a < 4294967296) (hb : b < 10) : IntKind.u32.wrap ((a % 2 ^ IntKind.u32.bits &&& ((2 : Int) ^ b % 2 ^ IntKind.u32.bits).toNat : Nat)) = if a.testBit b = true then ((2 ^ b : Nat) : Int) else 0 := by
  have e : (2 : Int) ^ b = ((2 ^ b : Nat) : Int) := by simp
  rw [e, andBit0 ha (Nat.pow_lt_pow_right (n := 10) (by omega) hb), and_pow]
  cases a.testBit b <;> simp
theorem bitI_10 {i j : Nat} (hi : i < 5) (hj : j < 5) (h : i ≠ j) : bitI i j < 10 := by
  rcases Nat.lt_or_gt_of_ne h with h | h
  · exact bitI_lt h hj
  · rw [bitI_c]; exact bitI_lt h hi

def hasB (e i j : Int) : Bool := e.toNat.testBit (bitI i.toNat j.toNat)
def vx (i j : Int) : Prop := (0 ≤ i ∧ i < 5) ∧ (0 ≤ j ∧ j < 5) ∧ i ≠ j
noncomputable def sp_has : List AV → Option (AV) := pf (ι := (Int) × (Int) × (Int) × (Int)) (α := AV) (fun ⟨n, e, i, j⟩ => (0 ≤ e ∧ e ≤ 4294967295) ∧ vx i j) (fun ⟨n, e, i, j⟩ => [.agg [.int .i64 n, .int .u32 e], .int .i64 i, .int .i64 j]) (fun ⟨n, e, i, j⟩ => .bool (hasB e i j))
theorem sp_has_eq (n e i j : Int) (h : (0 ≤ e ∧ e ≤ 4294967295) ∧ vx i j) : sp_has [.agg [.int .i64 n, .int .u32 e], .int .i64 i, .int .i64 j] = some (.bool (hasB e i j)) := by
  unfold sp_has
  exact pf_eq (ι := (Int) × (Int) × (Int) × (Int)) (α := AV) (n, e, i, j) h (by rintro ⟨n', e', i', j'⟩ _ e; simp_all [Int.natCast_inj])
theorem q_impl_Graph_has : QP PP 134 sp_has := by
  refine QP_pf (fun i h => ?_) fun i h => ?_
  · obtain ⟨n, e, i, j⟩ := i; exact ⟨by first | rfl | simp, by first | rfl | simp⟩
  obtain ⟨n, e, i, j⟩ := i
  replace h : (0 ≤ e ∧ e ≤ 4294967295) ∧ vx i j := h
  refine P_code (Quiet.q1 q_impl_bit Quiet.nil) hmix k_impl_Graph_has rfl ?_ ?_
  · first | rfl | simp
  show wpc 0 PP _ c_impl_Graph_has (initSt [.agg [.int .i64 n, .int .u32 e], .int .i64 i, .int .i64 j] .nil) (endP r_impl_Graph_has (.bool (hasB e i j)))
  obtain ⟨⟨e0, e1⟩, ⟨i0, i1⟩, ⟨j0, j1⟩, hij⟩ := h
  obtain ⟨m, rfl⟩ := Int.eq_ofNat_of_zero_le e0
  have hb := andBit (a := m) (b := bitI i.toNat j.toNat) (by omega) (bitI_10 (by omega) (by omega) (by omega))
  simp -dsimp -implicitDefEqProofs [c_impl_Graph_has, r_impl_Graph_has, sp_bit_eq i j (by omega), hb, hasB]
  have hp : (2 : Int) ^ bitI i.toNat j.toNat ≠ 0 := Int.pow_ne_zero (by omega)
  cases m.testBit (bitI i.toNat j.toNat) <;> simp [hp]

def notE (e : Int) (n : Int) : Nat := madeE (fun i j => !hasB e i j) n.toNat
noncomputable def sp_opp1 : List (Option (List AV)) → List AV → Option (AV × List (Option (List AV))) := pv (pf (ι := (Int) × (Int) × (Int) × (Int)) (α := AV × List (Option (List AV))) (fun ⟨n, e, i, j⟩ => (0 ≤ e ∧ e ≤ 4294967295) ∧ vx i j) (fun i => .agg (((fun ⟨n, e, i, j⟩ => [some [.int .i64 n, .int .u32 e]] : (Int) × (Int) × (Int) × (Int) → List (Option (List AV))) i).map enO) :: (fun ⟨n, e, i, j⟩ => [.int .i64 i, .int .i64 j, .ptr 0 0] : (Int) × (Int) × (Int) × (Int) → List AV) i) (fun ⟨n, e, i, j⟩ => (.bool (!hasB e i j), [some [.int .i64 n, .int .u32 e]])))
theorem sp_opp1_eq (n e i j : Int) (h : (0 ≤ e ∧ e ≤ 4294967295) ∧ vx i j) : sp_opp1 [some [.int .i64 n, .int .u32 e]] [.int .i64 i, .int .i64 j, .ptr 0 0] = some (.bool (!hasB e i j), [some [.int .i64 n, .int .u32 e]]) := by
  unfold sp_opp1 pv
  exact pf_eq (ι := (Int) × (Int) × (Int) × (Int)) (α := AV × List (Option (List AV))) (n, e, i, j) h (by rintro ⟨n', e', i', j'⟩ _ e; simp_all [enO, Int.natCast_inj])
theorem v_impl_Graph_opposite_1 : QV PP 133 sp_opp1 := by
  refine QV_pf fun i h => ?_
  obtain ⟨n, e, i, j⟩ := i
  replace h : (0 ≤ e ∧ e ≤ 4294967295) ∧ vx i j := h
  refine H_code (Quiet.q1 q_impl_Graph_has Quiet.nil) hmix k_impl_Graph_opposite_1 rfl (fun b => b) (by simp [AHeap.n]) (fun _ _ => rfl) (by rfl) (by first | rfl | simp) ?_
  show wpc _ PP _ c_impl_Graph_opposite_1 (initSt [.int .i64 i, .int .i64 j, .ptr 0 0] ⟨[some [.int .i64 n, .int .u32 e]]⟩) (endH (fun b => b) r_impl_Graph_opposite_1 (.bool (!hasB e i j)) [some [.int .i64 n, .int .u32 e]])
  simp -dsimp -implicitDefEqProofs [c_impl_Graph_opposite_1, r_impl_Graph_opposite_1, sp_has_eq n e i j h, hsub]
theorem e_made_opp : QE PP 80 (spMade 133 (spV sp_opp1)) := QE_made v_impl_Graph_opposite_1.toE
noncomputable def sp_opp : List AV → Option (AV) := pf (ι := (Int) × (Int)) (α := AV) (fun ⟨n, e⟩ => (0 ≤ n ∧ n ≤ 5) ∧ (0 ≤ e ∧ e ≤ 4294967295)) (fun ⟨n, e⟩ => [.agg [.int .i64 n, .int .u32 e]]) (fun ⟨n, e⟩ => .agg [.int .i64 n, .int .u32 (notE e n)])
theorem sp_opp_eq (n e : Int) (h : (0 ≤ n ∧ n ≤ 5) ∧ (0 ≤ e ∧ e ≤ 4294967295)) : sp_opp [.agg [.int .i64 n, .int .u32 e]] = some (.agg [.int .i64 n, .int .u32 (notE e n)]) := by
  unfold sp_opp
  exact pf_eq (ι := (Int) × (Int)) (α := AV) (n, e) h (by rintro ⟨n', e'⟩ _ e; simp_all [Int.natCast_inj])
theorem q_impl_Graph_opposite : QP PP 66 sp_opp := by
  refine QP_pf (fun i h => ?_) fun i h => ?_
  · obtain ⟨n, e⟩ := i; exact ⟨by first | rfl | simp, by first | rfl | simp⟩
  obtain ⟨n, e⟩ := i
  replace h : (0 ≤ n ∧ n ≤ 5) ∧ (0 ≤ e ∧ e ≤ 4294967295) := h
  refine P_code (Quiet.e1 e_made_opp Quiet.nil) hmix k_impl_Graph_opposite rfl ?_ ?_
  · first | rfl | simp
  show wpc 0 PP _ c_impl_Graph_opposite (initSt [.agg [.int .i64 n, .int .u32 e]] .nil) (endP r_impl_Graph_opposite (.agg [.int .i64 n, .int .u32 (notE e n)]))
  have hm := spMade_eq (g := 133) (sp := spV sp_opp1) (n := n) (caps := [.ptr 0 0]) (A := ⟨[some [.int .i64 n, .int .u32 e], some [.int .i64 0, .int .u32 0]]⟩) (fun i j => !hasB e i j) h.1 (fun i j hi hj => by
    have := sp_opp1_eq n e i j ⟨h.2, by unfold vx; omega⟩
    simp [this])
  simp -dsimp -implicitDefEqProofs [c_impl_Graph_opposite, r_impl_Graph_opposite, hm, notE]
end Go.Proofs.YtkgodhdpcomjbaaAi
end

section
/- MADE BY PROGRAM (wip/tools/gen.py): the abstract code of functions. -/
namespace Go.Proofs.YtkgodhdpcomjbaaAi
open Go AC AOp Opd
set_option linter.unusedVariables false
set_option maxRecDepth 100000
def c_impl_Pattern_loop : AC := seq (reg [⟨(some 4), mv (c (.bool false)), none⟩]) (seq (reg [⟨(some 5), mv (t 0), none⟩, ⟨(some 6), nilc (t 5), none⟩, ⟨(some 7), fad (t 6) 2, none⟩, ⟨(some 8), ld (t 7) 1 false, none⟩, ⟨(some 9), mv (t 1), none⟩, ⟨(some 10), bin .shr (t 8) (t 9), none⟩, ⟨(some 11), bin .and (t 10) (c (.int .u32 1)), none⟩, ⟨(some 12), bin .eql (t 11) (c (.int .u32 1)), none⟩, ⟨(some 4), mv (t 12), none⟩]) (ret))
def r_impl_Pattern_loop : List ARes := [.tmp 4]
theorem k_impl_Pattern_loop : acLin Go.Proofs.Try.prog 146 2 (inQ [] []) [] = some (c_impl_Pattern_loop, r_impl_Pattern_loop) := by kernel_rfl
def c_impl_Pattern_joined : AC := seq (reg [⟨(some 6), mv (c (.bool false)), none⟩]) (seq (seq (reg [⟨(some 7), mv (t 1), none⟩, ⟨(some 8), mv (t 2), none⟩, ⟨(some 9), bin .eql (t 7) (t 8), none⟩]) (cond (t 9) (seq (reg [⟨(some 10), mv (t 0), none⟩, ⟨(some 11), mv (t 1), none⟩, ⟨(some 12), calle (c (.fn 146 [])) [t 10, t 11] [], none⟩, ⟨(some 6), mv (t 12), none⟩]) (ret)) (skip))) (seq (reg [⟨(some 13), mv (t 0), none⟩, ⟨(some 14), nilc (t 13), none⟩, ⟨(some 15), fad (t 14) 0, none⟩, ⟨(some 16), ld (t 15) 2 true, none⟩, ⟨(some 17), mv (t 1), none⟩, ⟨(some 18), mv (t 2), none⟩, ⟨(some 19), callq (c (.fn 134 [])) [t 16, t 17, t 18], none⟩, ⟨(some 6), mv (t 19), none⟩]) (ret)))
def r_impl_Pattern_joined : List ARes := [.tmp 6]
theorem k_impl_Pattern_joined : acLin Go.Proofs.Try.prog 82 3 (inQ [134] [146]) [] = some (c_impl_Pattern_joined, r_impl_Pattern_joined) := by kernel_rfl
def c_impl_sizeOk : AC := seq (reg [⟨(some 2), mv (c (.bool false)), none⟩]) (seq (reg [⟨(some 3), mv (t 0), none⟩, ⟨(some 4), callq (c (.fn 87 [])) [t 3, c (.int .i64 0), c (.int .i64 5)], none⟩, ⟨(some 2), mv (t 4), none⟩]) (ret))
def r_impl_sizeOk : List ARes := [.tmp 2]
theorem k_impl_sizeOk : acLin Go.Proofs.Try.prog 78 1 (inQ [87] []) [] = some (c_impl_sizeOk, r_impl_sizeOk) := by kernel_rfl
def c_impl_BlowUp_1 : AC := seq (reg [⟨(some 2), mv (c (.bool false)), none⟩]) (seq (reg [⟨(some 3), mv (t 0), none⟩, ⟨(some 4), callq (c (.fn 78 [])) [t 3], none⟩, ⟨(some 5), un .not (t 4), none⟩, ⟨(some 2), mv (t 5), none⟩]) (ret))
def r_impl_BlowUp_1 : List ARes := [.tmp 2]
theorem k_impl_BlowUp_1 : acLin Go.Proofs.Try.prog 77 1 (inQ [78] []) [] = some (c_impl_BlowUp_1, r_impl_BlowUp_1) := by kernel_rfl
def c_impl_BlowUp_2 : AC := seq (reg [⟨(some 6), mv (c (.bool false)), none⟩]) (seq (reg [⟨(some 7), ld (t 3) 1 false, none⟩, ⟨(some 8), mv (t 0), none⟩, ⟨(some 9), iad 1 (t 7) (t 8), none⟩, ⟨(some 10), ld (t 9) 1 false, none⟩, ⟨(some 11), ld (t 3) 1 false, none⟩, ⟨(some 12), mv (t 1), none⟩, ⟨(some 13), iad 1 (t 11) (t 12), none⟩, ⟨(some 14), ld (t 13) 1 false, none⟩, ⟨(some 15), calle (c (.fn 82 [])) [t 2, t 10, t 14] [], none⟩, ⟨(some 6), mv (t 15), none⟩]) (ret))
def r_impl_BlowUp_2 : List ARes := [.tmp 6]
theorem k_impl_BlowUp_2 : acLin Go.Proofs.Try.prog 81 4 (inQ [] [82]) [⟨false, none, [], [], none⟩, ⟨false, some [0, 1, 2, 3, 4, 5, 6, 7, 8, 9], [], [], none⟩] = some (c_impl_BlowUp_2, r_impl_BlowUp_2) := by kernel_rfl
def c_slices_IndexFunc_Sint64_int64 : AC := seq (reg [⟨(some 4), mv (c (.int .i64 0)), none⟩]) (seq (seq (reg [⟨(some 6), mv (t 0), none⟩, ⟨(some 7), len (t 6), none⟩, ⟨(some 8), mv (c (.int .i64 0)), none⟩]) (block 0 (loop (seq (reg [⟨(some 9), bin .lss (t 8) (t 7), none⟩]) (seq (cond (t 9) (skip) (exit 0)) (seq (block 1 (seq (reg [⟨(some 10), mv (t 8), none⟩, ⟨(some 5), mv (t 10), none⟩]) (seq (reg [⟨(some 11), mv (t 1), none⟩, ⟨(some 12), mv (t 0), none⟩, ⟨(some 13), mv (t 5), none⟩, ⟨(some 14), iad 1 (t 12) (t 13), none⟩, ⟨(some 15), ld (t 14) 1 false, none⟩, ⟨(some 16), call (t 11) [t 15], none⟩]) (cond (t 16) (seq (reg [⟨(some 17), mv (t 5), none⟩, ⟨(some 4), mv (t 17), none⟩]) (ret)) (skip))))) (reg [⟨(some 18), bin .add (t 8) (c (.int .i64 1)), none⟩, ⟨(some 8), mv (t 18), none⟩]))))))) (seq (reg [⟨(some 4), mv (c (.int .i64 (-1))), none⟩]) (ret)))
def r_slices_IndexFunc_Sint64_int64 : List ARes := [.tmp 4]
theorem k_slices_IndexFunc_Sint64_int64 : acLin Go.Proofs.Try.prog 143 2 (inQ [] []) [] = some (c_slices_IndexFunc_Sint64_int64, r_slices_IndexFunc_Sint64_int64) := by kernel_rfl
def c_slices_ContainsFunc_Sint64_int64 : AC := seq (reg [⟨(some 4), mv (c (.bool false)), none⟩]) (seq (reg [⟨(some 5), mv (t 0), none⟩, ⟨(some 6), mv (t 1), none⟩, ⟨(some 7), calle (c (.fn 143 [])) [t 5, t 6] [], none⟩, ⟨(some 8), bin .geq (t 7) (c (.int .i64 0)), none⟩, ⟨(some 4), mv (t 8), none⟩]) (ret))
def r_slices_ContainsFunc_Sint64_int64 : List ARes := [.tmp 4]
theorem k_slices_ContainsFunc_Sint64_int64 : acLin Go.Proofs.Try.prog 76 2 (inQ [] [143]) [] = some (c_slices_ContainsFunc_Sint64_int64, r_slices_ContainsFunc_Sint64_int64) := by kernel_rfl
def c_slices_Repeat_Sint64_int64 : AC := seq (reg [⟨(some 4), mv (c (.sl [] true)), none⟩]) (seq (seq (reg [⟨(some 9), mv (t 1), none⟩, ⟨(some 10), bin .lss (t 9) (c (.int .i64 0)), none⟩]) (cond (t 10) (reg [⟨(some 11), bad, none⟩, ⟨none, bad, none⟩]) (skip))) (seq (reg [⟨(some 13), mv (t 0), none⟩, ⟨(some 14), len (t 13), none⟩, ⟨(some 15), conv .u64 (t 14), none⟩, ⟨(some 16), mv (t 1), none⟩, ⟨(some 17), conv .u64 (t 16), none⟩, ⟨(some 18), callq (c (.fn 144 [])) [t 15, t 17], none⟩, ⟨(some 12), mv (t 18), none⟩, ⟨(some 19), ext (t 12) 0, none⟩, ⟨(some 20), ext (t 12) 1, none⟩, ⟨(some 5), mv (t 19), none⟩, ⟨(some 6), mv (t 20), none⟩]) (seq (seq (reg [⟨(some 21), mv (t 5), none⟩, ⟨(some 22), bin .gtr (t 21) (c (.int .u64 0)), none⟩, ⟨(some 23), mv (t 22), none⟩, ⟨(some 24), mv (t 6), some (23, false)⟩, ⟨(some 25), bin .gtr (t 24) (c (.int .u64 9223372036854775807)), some (23, false)⟩, ⟨(some 26), pick (t 23) (c (.bool true)) (t 25), none⟩]) (cond (t 26) (reg [⟨(some 27), bad, none⟩, ⟨none, bad, none⟩]) (skip))) (seq (reg [⟨(some 28), mv (t 6), none⟩, ⟨(some 29), conv .i64 (t 28), none⟩, ⟨(some 30), mks 1 8 [.int .i64 0] (t 29) (t 29), none⟩, ⟨(some 7), mv (t 30), none⟩]) (seq (reg [⟨(some 31), mv (t 7), none⟩, ⟨(some 32), mv (t 0), none⟩, ⟨(some 33), cpy 1 (t 31) (t 32), none⟩, ⟨(some 8), mv (t 33), none⟩]) (seq (block 0 (loop (seq (seq (reg [⟨(some 34), mv (t 8), none⟩, ⟨(some 35), mv (t 7), none⟩, ⟨(some 36), len (t 35), none⟩, ⟨(some 37), bin .lss (t 34) (t 36), none⟩]) (cond (t 37) (skip) (exit 0))) (block 1 (reg [⟨(some 38), mv (t 8), none⟩, ⟨(some 39), mv (t 7), none⟩, ⟨(some 40), mv (t 8), none⟩, ⟨(some 41), sli 1 (t 39) (some (t 40)) none none, none⟩, ⟨(some 42), mv (t 7), none⟩, ⟨(some 43), mv (t 8), none⟩, ⟨(some 44), sli 1 (t 42) none (some (t 43)) none, none⟩, ⟨(some 45), cpy 1 (t 41) (t 44), none⟩, ⟨(some 46), bin .add (t 38) (t 45), none⟩, ⟨(some 8), mv (t 46), none⟩]))))) (seq (reg [⟨(some 47), mv (t 7), none⟩, ⟨(some 4), mv (t 47), none⟩]) (ret))))))))
def r_slices_Repeat_Sint64_int64 : List ARes := [.tmp 4]
theorem k_slices_Repeat_Sint64_int64 : acLin Go.Proofs.Try.prog 79 2 (inQ [144] []) [⟨false, none, [], [], none⟩, ⟨false, none, [], [], none⟩, ⟨false, none, [], [], none⟩, ⟨false, none, [], [], none⟩, ⟨false, none, [], [], none⟩, ⟨false, none, [], [], none⟩, ⟨false, none, [], [], none⟩, ⟨false, none, [], [], none⟩, ⟨false, none, [], [], none⟩, ⟨false, none, [], [], none⟩, ⟨false, some [0, 1, 2, 3, 4, 5, 6, 7, 8, 9], [], [], none⟩] = some (c_slices_Repeat_Sint64_int64, r_slices_Repeat_Sint64_int64) := by kernel_rfl
def c_impl_BlowUp : AC := seq (reg [⟨(some 2), box 4 (t 0), none⟩, ⟨(some 4), alloc [.int .i64 0, .int .u32 0], none⟩, ⟨(some 5), mv (c (.int .i64 0)), none⟩]) (seq (seq (reg [⟨(some 9), ld (t 2) 4 true, none⟩, ⟨(some 10), callq (c (.fn 65 [])) [t 9], none⟩, ⟨(some 11), un .not (t 10), none⟩]) (cond (t 11) (seq (reg [⟨(some 12), bld [.int .i64 0, .int .u32 0] [], none⟩, ⟨none, st (t 4) 2 (t 12), none⟩, ⟨(some 5), mv (c (.int .i64 1)), none⟩]) (ret)) (skip))) (seq (seq (reg [⟨(some 13), mv (t 1), none⟩, ⟨(some 14), len (t 13), none⟩, ⟨(some 15), fad (t 2) 3, none⟩, ⟨(some 16), ld (t 15) 1 false, none⟩, ⟨(some 17), len (t 16), none⟩, ⟨(some 18), bin .neq (t 14) (t 17), none⟩, ⟨(some 19), mv (t 18), none⟩, ⟨(some 20), mv (t 1), some (19, false)⟩, ⟨(some 21), calle (c (.fn 76 [])) [t 20, c (.fn 77 [])] [], some (19, false)⟩, ⟨(some 22), pick (t 19) (c (.bool true)) (t 21), none⟩]) (cond (t 22) (seq (reg [⟨(some 23), bld [.int .i64 0, .int .u32 0] [], none⟩, ⟨none, st (t 4) 2 (t 23), none⟩, ⟨(some 5), mv (c (.int .i64 2)), none⟩]) (ret)) (skip))) (seq (reg [⟨(some 24), bsl 1 0 [.int .i64 0] [], none⟩, ⟨(some 6), alloc [.sl [] true], none⟩, ⟨none, st (t 6) 1 (t 24), none⟩]) (seq (seq (reg [⟨(some 25), mv (t 1), none⟩, ⟨(some 26), len (t 25), none⟩, ⟨(some 27), mv (c (.int .i64 0)), none⟩]) (block 0 (loop (seq (reg [⟨(some 28), bin .lss (t 27) (t 26), none⟩]) (seq (cond (t 28) (skip) (exit 0)) (seq (block 1 (seq (reg [⟨(some 29), mv (t 27), none⟩, ⟨(some 30), iad 1 (t 25) (t 27), none⟩, ⟨(some 31), ld (t 30) 1 false, none⟩, ⟨(some 7), mv (t 29), none⟩, ⟨(some 8), mv (t 31), none⟩]) (reg [⟨(some 32), ld (t 6) 1 false, none⟩, ⟨(some 33), mv (t 7), none⟩, ⟨(some 35), mv (t 8), none⟩, ⟨(some 34), bsl 1 1 [.int .i64 0] [(0, t 33)], none⟩, ⟨(some 36), calle (c (.fn 79 [])) [t 34, t 35] [(t 6, 1, false)], none⟩, ⟨(some 37), app 1 8 (t 32) (t 36), none⟩, ⟨none, st (t 6) 1 (t 37), none⟩]))) (reg [⟨(some 38), bin .add (t 27) (c (.int .i64 1)), none⟩, ⟨(some 27), mv (t 38), none⟩]))))))) (seq (seq (reg [⟨(some 39), ld (t 6) 1 false, none⟩, ⟨(some 40), len (t 39), none⟩, ⟨(some 41), bin .gtr (t 40) (c (.int .i64 5)), none⟩]) (cond (t 41) (seq (reg [⟨(some 42), bld [.int .i64 0, .int .u32 0] [], none⟩, ⟨none, st (t 4) 2 (t 42), none⟩, ⟨(some 5), mv (c (.int .i64 2)), none⟩]) (ret)) (skip))) (seq (reg [⟨(some 43), ld (t 6) 1 false, none⟩, ⟨(some 44), len (t 43), none⟩, ⟨(some 45), mkf 81 [t 2, t 6], none⟩, ⟨(some 46), calle (c (.fn 80 [])) [t 44, t 45] [], none⟩, ⟨none, st (t 4) 2 (t 46), none⟩, ⟨(some 5), mv (c (.int .i64 0)), none⟩]) (ret)))))))
def r_impl_BlowUp : List ARes := [.cell 4 2 true, .tmp 5]
theorem k_impl_BlowUp : acLin Go.Proofs.Try.prog 27 2 (inQ [65] [76, 79, 80]) [⟨false, none, [], [], none⟩, ⟨false, none, [], [], none⟩, ⟨false, none, [], [], none⟩, ⟨false, none, [], [], none⟩, ⟨false, none, [], [], none⟩, ⟨false, none, [], [], none⟩, ⟨false, none, [], [], none⟩, ⟨false, none, [], [], none⟩, ⟨false, none, [], [], none⟩, ⟨false, none, [], [], none⟩, ⟨false, none, [], [], none⟩, ⟨false, none, [], [], none⟩, ⟨false, some [0, 1, 3, 2, 4, 5, 6], [(4, [(t 6, 1, false)])], [], none⟩] = some (c_impl_BlowUp, r_impl_BlowUp) := by kernel_rfl
def c_spec_l01Bit : AC := seq (reg [⟨(some 4), mv (c (.int .u32 0)), none⟩]) (seq (seq (reg [⟨(some 5), mv (t 0), none⟩, ⟨(some 6), mv (t 1), none⟩, ⟨(some 7), bin .gtr (t 5) (t 6), none⟩]) (cond (t 7) (seq (reg [⟨(some 8), mv (t 1), none⟩, ⟨(some 9), mv (t 0), none⟩, ⟨(some 10), callq (c (.fn 75 [])) [t 8, t 9], none⟩, ⟨(some 4), mv (t 10), none⟩]) (ret)) (skip))) (seq (reg [⟨(some 11), mv (t 1), none⟩, ⟨(some 12), callq (c (.fn 135 [])) [t 11], none⟩, ⟨(some 13), mv (t 0), none⟩, ⟨(some 14), bin .add (t 12) (t 13), none⟩, ⟨(some 15), conv .u64 (t 14), none⟩, ⟨(some 16), bin .shl (c (.int .u32 1)) (t 15), none⟩, ⟨(some 4), mv (t 16), none⟩]) (ret)))
def r_spec_l01Bit : List ARes := [.tmp 4]
theorem k_spec_l01Bit : acLin Go.Proofs.Try.prog 75 2 (inQ [75, 135] []) [] = some (c_spec_l01Bit, r_spec_l01Bit) := by kernel_rfl
def c_spec_l01Joined : AC := seq (reg [⟨(some 3), box 2 (t 0), none⟩, ⟨(some 6), mv (c (.bool false)), none⟩]) (seq (reg [⟨(some 7), mv (t 1), none⟩, ⟨(some 8), mv (t 2), none⟩, ⟨(some 9), bin .neq (t 7) (t 8), none⟩, ⟨(some 10), mv (t 9), none⟩, ⟨(some 11), fad (t 3) 1, some (10, true)⟩, ⟨(some 12), ld (t 11) 1 false, some (10, true)⟩, ⟨(some 13), mv (t 1), some (10, true)⟩, ⟨(some 14), mv (t 2), some (10, true)⟩, ⟨(some 15), callq (c (.fn 75 [])) [t 13, t 14], some (10, true)⟩, ⟨(some 16), bin .and (t 12) (t 15), some (10, true)⟩, ⟨(some 17), bin .neq (t 16) (c (.int .u32 0)), some (10, true)⟩, ⟨(some 18), pick (t 10) (t 17) (c (.bool false)), none⟩, ⟨(some 6), mv (t 18), none⟩]) (ret))
def r_spec_l01Joined : List ARes := [.tmp 6]
theorem k_spec_l01Joined : acLin Go.Proofs.Try.prog 142 3 (inQ [75] []) [⟨false, none, [], [], none⟩, ⟨false, some [0, 1, 2, 3, 4, 5, 6, 7, 8, 9, 10, 11, 12], [], [], none⟩] = some (c_spec_l01Joined, r_spec_l01Joined) := by kernel_rfl
def c_spec_l07Joined : AC := seq (reg [⟨(some 6), mv (c (.bool false)), none⟩]) (seq (seq (reg [⟨(some 7), mv (t 1), none⟩, ⟨(some 8), mv (t 2), none⟩, ⟨(some 9), bin .eql (t 7) (t 8), none⟩]) (cond (t 9) (seq (reg [⟨(some 10), mv (t 0), none⟩, ⟨(some 11), nilc (t 10), none⟩, ⟨(some 12), fad (t 11) 2, none⟩, ⟨(some 13), ld (t 12) 1 false, none⟩, ⟨(some 14), mv (t 1), none⟩, ⟨(some 15), conv .u64 (t 14), none⟩, ⟨(some 16), bin .shr (t 13) (t 15), none⟩, ⟨(some 17), bin .and (t 16) (c (.int .u32 1)), none⟩, ⟨(some 18), bin .eql (t 17) (c (.int .u32 1)), none⟩, ⟨(some 6), mv (t 18), none⟩]) (ret)) (skip))) (seq (reg [⟨(some 19), mv (t 0), none⟩, ⟨(some 20), nilc (t 19), none⟩, ⟨(some 21), fad (t 20) 0, none⟩, ⟨(some 22), ld (t 21) 2 true, none⟩, ⟨(some 23), mv (t 1), none⟩, ⟨(some 24), mv (t 2), none⟩, ⟨(some 25), callq (c (.fn 142 [])) [t 22, t 23, t 24], none⟩, ⟨(some 6), mv (t 25), none⟩]) (ret)))
def r_spec_l07Joined : List ARes := [.tmp 6]
theorem k_spec_l07Joined : acLin Go.Proofs.Try.prog 74 3 (inQ [142] []) [] = some (c_spec_l07Joined, r_spec_l07Joined) := by kernel_rfl
def c_spec_BlowUp : AC := seq (reg [⟨(some 2), box 4 (t 0), none⟩, ⟨(some 4), alloc [.int .i64 0, .int .u32 0], none⟩, ⟨(some 5), mv (c (.int .i64 0)), none⟩]) (seq (seq (reg [⟨(some 12), calle (c (.fn 61 [])) [t 2] [], none⟩, ⟨(some 13), un .not (t 12), none⟩]) (cond (t 13) (seq (reg [⟨(some 14), bld [.int .i64 0, .int .u32 0] [], none⟩, ⟨none, st (t 4) 2 (t 14), none⟩, ⟨(some 5), mv (c (.int .i64 1)), none⟩]) (ret)) (skip))) (seq (seq (reg [⟨(some 15), mv (t 1), none⟩, ⟨(some 16), len (t 15), none⟩, ⟨(some 17), fad (t 2) 0, none⟩, ⟨(some 18), fad (t 17) 0, none⟩, ⟨(some 19), ld (t 18) 1 false, none⟩, ⟨(some 20), bin .neq (t 16) (t 19), none⟩]) (cond (t 20) (seq (reg [⟨(some 21), bld [.int .i64 0, .int .u32 0] [], none⟩, ⟨none, st (t 4) 2 (t 21), none⟩, ⟨(some 5), mv (c (.int .i64 2)), none⟩]) (ret)) (skip))) (seq (reg [⟨(some 22), bsl 1 0 [.int .i64 0] [], none⟩, ⟨(some 6), mv (t 22), none⟩]) (seq (seq (reg [⟨(some 7), mv (c (.int .i64 0)), none⟩]) (block 0 (loop (seq (seq (reg [⟨(some 23), mv (t 7), none⟩, ⟨(some 24), mv (t 1), none⟩, ⟨(some 25), len (t 24), none⟩, ⟨(some 26), bin .lss (t 23) (t 25), none⟩]) (cond (t 26) (skip) (exit 0))) (seq (block 1 (seq (seq (reg [⟨(some 29), mv (t 1), none⟩, ⟨(some 30), mv (t 7), none⟩, ⟨(some 31), iad 1 (t 29) (t 30), none⟩, ⟨(some 32), ld (t 31) 1 false, none⟩, ⟨(some 33), callq (c (.fn 73 [])) [t 32, c (.int .i64 0), c (.int .i64 5)], none⟩, ⟨(some 34), un .not (t 33), none⟩]) (cond (t 34) (seq (reg [⟨(some 35), bld [.int .i64 0, .int .u32 0] [], none⟩, ⟨none, st (t 4) 2 (t 35), none⟩, ⟨(some 5), mv (c (.int .i64 2)), none⟩]) (ret)) (skip))) (seq (reg [⟨(some 8), mv (c (.int .i64 0)), none⟩]) (block 2 (loop (seq (seq (reg [⟨(some 36), mv (t 8), none⟩, ⟨(some 37), mv (t 1), none⟩, ⟨(some 38), mv (t 7), none⟩, ⟨(some 39), iad 1 (t 37) (t 38), none⟩, ⟨(some 40), ld (t 39) 1 false, none⟩, ⟨(some 41), bin .lss (t 36) (t 40), none⟩]) (cond (t 41) (skip) (exit 2))) (seq (block 3 (reg [⟨(some 44), mv (t 6), none⟩, ⟨(some 45), mv (t 7), none⟩, ⟨(some 46), bsl 1 1 [.int .i64 0] [(0, t 45)], none⟩, ⟨(some 47), app 1 8 (t 44) (t 46), none⟩, ⟨(some 6), mv (t 47), none⟩])) (reg [⟨(some 42), mv (t 8), none⟩, ⟨(some 43), bin .add (t 42) (c (.int .i64 1)), none⟩, ⟨(some 8), mv (t 43), none⟩])))))))) (reg [⟨(some 27), mv (t 7), none⟩, ⟨(some 28), bin .add (t 27) (c (.int .i64 1)), none⟩, ⟨(some 7), mv (t 28), none⟩])))))) (seq (seq (reg [⟨(some 48), mv (t 6), none⟩, ⟨(some 49), len (t 48), none⟩, ⟨(some 50), bin .gtr (t 49) (c (.int .i64 5)), none⟩]) (cond (t 50) (seq (reg [⟨(some 51), bld [.int .i64 0, .int .u32 0] [], none⟩, ⟨none, st (t 4) 2 (t 51), none⟩, ⟨(some 5), mv (c (.int .i64 2)), none⟩]) (ret)) (skip))) (seq (reg [⟨(some 52), mv (t 6), none⟩, ⟨(some 53), len (t 52), none⟩, ⟨(some 54), bld [.int .i64 0, .int .u32 0] [(0, 1, t 53)], none⟩, ⟨(some 9), alloc [.int .i64 0, .int .u32 0], none⟩, ⟨none, st (t 9) 2 (t 54), none⟩]) (seq (seq (reg [⟨(some 10), mv (c (.int .i64 1)), none⟩]) (block 4 (loop (seq (seq (reg [⟨(some 55), mv (t 10), none⟩, ⟨(some 56), fad (t 9) 0, none⟩, ⟨(some 57), ld (t 56) 1 false, none⟩, ⟨(some 58), bin .lss (t 55) (t 57), none⟩]) (cond (t 58) (skip) (exit 4))) (seq (block 5 (seq (reg [⟨(some 11), mv (c (.int .i64 0)), none⟩]) (block 6 (loop (seq (seq (reg [⟨(some 61), mv (t 11), none⟩, ⟨(some 62), mv (t 10), none⟩, ⟨(some 63), bin .lss (t 61) (t 62), none⟩]) (cond (t 63) (skip) (exit 6))) (seq (block 7 (seq (reg [⟨(some 66), mv (t 6), none⟩, ⟨(some 67), mv (t 11), none⟩, ⟨(some 68), iad 1 (t 66) (t 67), none⟩, ⟨(some 69), ld (t 68) 1 false, none⟩, ⟨(some 70), mv (t 6), none⟩, ⟨(some 71), mv (t 10), none⟩, ⟨(some 72), iad 1 (t 70) (t 71), none⟩, ⟨(some 73), ld (t 72) 1 false, none⟩, ⟨(some 74), calle (c (.fn 74 [])) [t 2, t 69, t 73] [], none⟩]) (cond (t 74) (reg [⟨(some 75), fad (t 9) 1, none⟩, ⟨(some 76), ld (t 75) 1 false, none⟩, ⟨(some 77), mv (t 11), none⟩, ⟨(some 78), mv (t 10), none⟩, ⟨(some 79), callq (c (.fn 75 [])) [t 77, t 78], none⟩, ⟨(some 80), bin .or (t 76) (t 79), none⟩, ⟨(some 81), fad (t 9) 1, none⟩, ⟨none, st (t 81) 1 (t 80), none⟩]) (skip)))) (reg [⟨(some 64), mv (t 11), none⟩, ⟨(some 65), bin .add (t 64) (c (.int .i64 1)), none⟩, ⟨(some 11), mv (t 65), none⟩]))))))) (reg [⟨(some 59), mv (t 10), none⟩, ⟨(some 60), bin .add (t 59) (c (.int .i64 1)), none⟩, ⟨(some 10), mv (t 60), none⟩])))))) (seq (reg [⟨(some 82), ld (t 9) 2 true, none⟩, ⟨none, st (t 4) 2 (t 82), none⟩, ⟨(some 5), mv (c (.int .i64 0)), none⟩]) (ret)))))))))
def r_spec_BlowUp : List ARes := [.cell 4 2 true, .tmp 5]
theorem k_spec_BlowUp : acLin Go.Proofs.Try.prog 25 2 (inQ [73, 75] [61, 74]) [⟨false, none, [], [], none⟩, ⟨false, none, [], [], none⟩, ⟨false, none, [], [], none⟩, ⟨false, none, [], [], none⟩, ⟨false, none, [], [], none⟩, ⟨false, none, [], [], none⟩, ⟨false, none, [], [], none⟩, ⟨false, none, [], [], none⟩, ⟨false, none, [], [], none⟩, ⟨false, none, [], [], none⟩, ⟨false, none, [], [], none⟩, ⟨false, none, [], [], none⟩, ⟨false, none, [], [], none⟩, ⟨false, none, [], [], none⟩, ⟨false, none, [], [], none⟩, ⟨false, none, [], [], none⟩, ⟨false, none, [], [], none⟩, ⟨false, none, [], [], none⟩, ⟨false, none, [], [], none⟩, ⟨false, none, [], [], none⟩, ⟨false, none, [], [], none⟩, ⟨false, none, [], [], none⟩, ⟨false, none, [], [], none⟩, ⟨false, none, [], [], none⟩, ⟨false, none, [], [], none⟩, ⟨false, none, [], [], none⟩, ⟨false, none, [], [], none⟩, ⟨false, none, [], [], none⟩, ⟨false, none, [], [], none⟩, ⟨false, none, [], [], none⟩, ⟨false, some [0, 1, 2, 3, 4, 5, 6, 7, 8], [], [], none⟩, ⟨false, some [0, 1, 2, 3, 4, 5, 6, 7], [], [], none⟩] = some (c_spec_BlowUp, r_spec_BlowUp) := by kernel_rfl
def c_laws_toInt64S : AC := seq (reg [⟨(some 2), mv (c (.sl [] true)), none⟩]) (seq (reg [⟨(some 5), mv (t 0), none⟩, ⟨(some 6), len (t 5), none⟩, ⟨(some 7), mks 1 8 [.int .i64 0] (t 6) (t 6), none⟩, ⟨(some 3), mv (t 7), none⟩]) (seq (seq (reg [⟨(some 4), mv (c (.int .i64 0)), none⟩]) (block 0 (loop (seq (seq (reg [⟨(some 8), mv (t 4), none⟩, ⟨(some 9), mv (t 0), none⟩, ⟨(some 10), len (t 9), none⟩, ⟨(some 11), bin .lss (t 8) (t 10), none⟩]) (cond (t 11) (skip) (exit 0))) (seq (block 1 (reg [⟨(some 14), mv (t 3), none⟩, ⟨(some 15), mv (t 4), none⟩, ⟨(some 16), mv (t 0), none⟩, ⟨(some 17), mv (t 4), none⟩, ⟨(some 18), iad 1 (t 16) (t 17), none⟩, ⟨(some 19), ld (t 18) 1 false, none⟩, ⟨(some 20), iad 1 (t 14) (t 15), none⟩, ⟨none, st (t 20) 1 (t 19), none⟩])) (reg [⟨(some 12), mv (t 4), none⟩, ⟨(some 13), bin .add (t 12) (c (.int .i64 1)), none⟩, ⟨(some 4), mv (t 13), none⟩])))))) (seq (reg [⟨(some 21), mv (t 3), none⟩, ⟨(some 2), mv (t 21), none⟩]) (ret))))
def r_laws_toInt64S : List ARes := [.tmp 2]
theorem k_laws_toInt64S : acLin Go.Proofs.Try.prog 26 1 (inQ [] []) [] = some (c_laws_toInt64S, r_laws_toInt64S) := by kernel_rfl
def c_laws_eqInt64S : AC := seq (reg [⟨(some 4), mv (c (.bool false)), none⟩]) (seq (seq (reg [⟨(some 6), mv (t 0), none⟩, ⟨(some 7), len (t 6), none⟩, ⟨(some 8), mv (t 1), none⟩, ⟨(some 9), len (t 8), none⟩, ⟨(some 10), bin .neq (t 7) (t 9), none⟩]) (cond (t 10) (seq (reg [⟨(some 4), mv (c (.bool false)), none⟩]) (ret)) (skip))) (seq (seq (reg [⟨(some 5), mv (c (.int .i64 0)), none⟩]) (block 0 (loop (seq (seq (reg [⟨(some 11), mv (t 5), none⟩, ⟨(some 12), mv (t 0), none⟩, ⟨(some 13), len (t 12), none⟩, ⟨(some 14), bin .lss (t 11) (t 13), none⟩]) (cond (t 14) (skip) (exit 0))) (seq (block 1 (seq (reg [⟨(some 17), mv (t 0), none⟩, ⟨(some 18), mv (t 5), none⟩, ⟨(some 19), iad 1 (t 17) (t 18), none⟩, ⟨(some 20), ld (t 19) 1 false, none⟩, ⟨(some 21), mv (t 1), none⟩, ⟨(some 22), mv (t 5), none⟩, ⟨(some 23), iad 1 (t 21) (t 22), none⟩, ⟨(some 24), ld (t 23) 1 false, none⟩, ⟨(some 25), bin .neq (t 20) (t 24), none⟩]) (cond (t 25) (seq (reg [⟨(some 4), mv (c (.bool false)), none⟩]) (ret)) (skip)))) (reg [⟨(some 15), mv (t 5), none⟩, ⟨(some 16), bin .add (t 15) (c (.int .i64 1)), none⟩, ⟨(some 5), mv (t 16), none⟩])))))) (seq (reg [⟨(some 4), mv (c (.bool true)), none⟩]) (ret))))
def r_laws_eqInt64S : List ARes := [.tmp 4]
theorem k_laws_eqInt64S : acLin Go.Proofs.Try.prog 29 2 (inQ [] []) [⟨false, none, [], [], none⟩, ⟨false, none, [], [], none⟩, ⟨false, none, [], [], none⟩, ⟨false, none, [], [], none⟩, ⟨false, none, [], [], none⟩, ⟨false, none, [], [], none⟩, ⟨false, none, [], [], none⟩, ⟨false, some [0, 1, 2, 3, 4, 5, 6, 7, 8], [], [], none⟩] = some (c_laws_eqInt64S, r_laws_eqInt64S) := by kernel_rfl
def c_laws_markInt64S : AC := seq (reg [⟨(some 4), mv (c (.int .i64 0)), none⟩]) (seq (seq (reg [⟨(some 5), mv (c (.int .i64 0)), none⟩]) (block 0 (loop (seq (seq (reg [⟨(some 6), mv (t 5), none⟩, ⟨(some 7), mv (t 0), none⟩, ⟨(some 8), len (t 7), none⟩, ⟨(some 9), bin .lss (t 6) (t 8), none⟩]) (cond (t 9) (skip) (exit 0))) (seq (block 1 (seq (reg [⟨(some 12), mv (t 0), none⟩, ⟨(some 13), mv (t 5), none⟩, ⟨(some 14), mv (t 1), none⟩, ⟨(some 15), iad 1 (t 12) (t 13), none⟩, ⟨none, st (t 15) 1 (t 14), none⟩]) (reg [⟨(some 16), mv (t 1), none⟩, ⟨(some 17), bin .add (t 16) (c (.int .i64 1)), none⟩, ⟨(some 1), mv (t 17), none⟩]))) (reg [⟨(some 10), mv (t 5), none⟩, ⟨(some 11), bin .add (t 10) (c (.int .i64 1)), none⟩, ⟨(some 5), mv (t 11), none⟩])))))) (seq (reg [⟨(some 18), mv (t 1), none⟩, ⟨(some 4), mv (t 18), none⟩]) (ret)))
def r_laws_markInt64S : List ARes := [.tmp 4]
theorem k_laws_markInt64S : acLin Go.Proofs.Try.prog 35 2 (inQ [] []) [] = some (c_laws_markInt64S, r_laws_markInt64S) := by kernel_rfl
def c_laws_heldInt64S : AC := seq (reg [⟨(some 4), mv (c (.int .i64 0)), none⟩]) (seq (seq (reg [⟨(some 5), mv (c (.int .i64 0)), none⟩]) (block 0 (loop (seq (seq (reg [⟨(some 6), mv (t 5), none⟩, ⟨(some 7), mv (t 0), none⟩, ⟨(some 8), len (t 7), none⟩, ⟨(some 9), bin .lss (t 6) (t 8), none⟩]) (cond (t 9) (skip) (exit 0))) (seq (block 1 (seq (seq (reg [⟨(some 12), mv (t 0), none⟩, ⟨(some 13), mv (t 5), none⟩, ⟨(some 14), iad 1 (t 12) (t 13), none⟩, ⟨(some 15), ld (t 14) 1 false, none⟩, ⟨(some 16), mv (t 1), none⟩, ⟨(some 17), bin .neq (t 15) (t 16), none⟩]) (cond (t 17) (seq (reg [⟨(some 4), mv (c (.int .i64 (-1))), none⟩]) (ret)) (skip))) (reg [⟨(some 18), mv (t 1), none⟩, ⟨(some 19), bin .add (t 18) (c (.int .i64 1)), none⟩, ⟨(some 1), mv (t 19), none⟩]))) (reg [⟨(some 10), mv (t 5), none⟩, ⟨(some 11), bin .add (t 10) (c (.int .i64 1)), none⟩, ⟨(some 5), mv (t 11), none⟩])))))) (seq (reg [⟨(some 20), mv (t 1), none⟩, ⟨(some 4), mv (t 20), none⟩]) (ret)))
def r_laws_heldInt64S : List ARes := [.tmp 4]
theorem k_laws_heldInt64S : acLin Go.Proofs.Try.prog 36 2 (inQ [] []) [] = some (c_laws_heldInt64S, r_laws_heldInt64S) := by kernel_rfl
def c_laws_FnExactBlowUp : AC := seq (reg [⟨(some 2), box 4 (t 0), none⟩, ⟨(some 4), mv (c (.bool false)), none⟩]) (seq (seq (reg [⟨(some 12), mv (t 1), none⟩, ⟨(some 13), len (t 12), none⟩, ⟨(some 14), bin .gtr (t 13) (c (.int .i64 1048576)), none⟩]) (cond (t 14) (seq (reg [⟨(some 4), mv (c (.bool true)), none⟩]) (ret)) (skip))) (seq (reg [⟨(some 5), mv (c (.int .i64 1048576)), none⟩]) (seq (reg [⟨(some 15), ld (t 2) 4 true, none⟩, ⟨(some 16), mv (t 5), none⟩, ⟨(some 17), callq (c (.fn 14 [])) [t 15, t 16], none⟩, ⟨(some 5), mv (t 17), none⟩]) (seq (seq (reg [⟨(some 18), mv (t 5), none⟩, ⟨(some 19), bin .lss (t 18) (c (.int .i64 0)), none⟩]) (cond (t 19) (seq (reg [⟨(some 4), mv (c (.bool true)), none⟩]) (ret)) (skip))) (seq (reg [⟨(some 21), ld (t 2) 4 true, none⟩, ⟨(some 22), calle (c (.fn 16 [])) [t 21] [], none⟩, ⟨(some 23), mv (t 1), none⟩, ⟨(some 24), calle (c (.fn 26 [])) [t 23] [], none⟩, ⟨(some 25), calle (c (.fn 25 [])) [t 22, t 24] [], none⟩, ⟨(some 20), mv (t 25), none⟩, ⟨(some 26), ext (t 20) 0, none⟩, ⟨(some 27), ext (t 20) 1, none⟩, ⟨(some 6), alloc [.int .i64 0, .int .u32 0], none⟩, ⟨none, st (t 6) 2 (t 26), none⟩, ⟨(some 7), mv (t 27), none⟩]) (seq (reg [⟨(some 28), ld (t 2) 4 true, none⟩, ⟨(some 29), calle (c (.fn 16 [])) [t 28] [], none⟩, ⟨(some 8), alloc [.int .i64 0, .int .u32 0, .int .u32 0, .sl [] true], none⟩, ⟨none, st (t 8) 4 (t 29), none⟩]) (seq (reg [⟨(some 30), mv (t 1), none⟩, ⟨(some 31), calle (c (.fn 26 [])) [t 30] [], none⟩, ⟨(some 9), mv (t 31), none⟩]) (seq (reg [⟨(some 33), ld (t 8) 4 true, none⟩, ⟨(some 34), mv (t 9), none⟩, ⟨(some 35), calle (c (.fn 27 [])) [t 33, t 34] [], none⟩, ⟨(some 32), mv (t 35), none⟩, ⟨(some 36), ext (t 32) 0, none⟩, ⟨(some 37), ext (t 32) 1, none⟩, ⟨(some 10), alloc [.int .i64 0, .int .u32 0], none⟩, ⟨none, st (t 10) 2 (t 36), none⟩, ⟨(some 11), mv (t 37), none⟩]) (seq (seq (reg [⟨(some 38), ld (t 10) 2 true, none⟩, ⟨(some 39), ld (t 6) 2 true, none⟩, ⟨(some 40), callq (c (.fn 28 [])) [t 38, t 39], none⟩, ⟨(some 41), un .not (t 40), none⟩, ⟨(some 42), mv (t 41), none⟩, ⟨(some 43), mv (t 11), some (42, false)⟩, ⟨(some 44), mv (t 7), some (42, false)⟩, ⟨(some 45), bin .neq (t 43) (t 44), some (42, false)⟩, ⟨(some 46), pick (t 42) (c (.bool true)) (t 45), none⟩]) (cond (t 46) (seq (reg [⟨(some 4), mv (c (.bool false)), none⟩]) (ret)) (skip))) (seq (seq (reg [⟨(some 47), ld (t 8) 4 true, none⟩, ⟨(some 48), ld (t 2) 4 true, none⟩, ⟨(some 49), calle (c (.fn 16 [])) [t 48] [(t 8, 4, true)], none⟩, ⟨(some 50), calle (c (.fn 18 [])) [t 47, t 49] [], none⟩, ⟨(some 51), un .not (t 50), none⟩]) (cond (t 51) (seq (reg [⟨(some 4), mv (c (.bool false)), none⟩]) (ret)) (skip))) (seq (seq (reg [⟨(some 52), mv (t 9), none⟩, ⟨(some 53), mv (t 1), none⟩, ⟨(some 54), calle (c (.fn 26 [])) [t 53] [], none⟩, ⟨(some 55), calle (c (.fn 29 [])) [t 52, t 54] [], none⟩, ⟨(some 56), un .not (t 55), none⟩]) (cond (t 56) (seq (reg [⟨(some 4), mv (c (.bool false)), none⟩]) (ret)) (skip))) (seq (reg [⟨(some 4), mv (c (.bool true)), none⟩]) (ret)))))))))))))
def r_laws_FnExactBlowUp : List ARes := [.tmp 4]
theorem k_laws_FnExactBlowUp : acLin Go.Proofs.Try.prog 5 2 (inQ [14, 28] [16, 18, 25, 26, 27, 29]) [⟨false, none, [], [], none⟩, ⟨false, none, [], [], none⟩, ⟨false, none, [], [], none⟩, ⟨false, none, [], [], none⟩, ⟨false, none, [], [], none⟩, ⟨false, none, [], [], none⟩, ⟨false, none, [], [], none⟩, ⟨false, none, [], [], none⟩, ⟨false, none, [], [], none⟩, ⟨false, none, [], [], none⟩, ⟨false, none, [], [], none⟩, ⟨false, none, [], [], none⟩, ⟨false, none, [], [], none⟩, ⟨false, none, [], [], none⟩, ⟨false, none, [], [], none⟩, ⟨false, none, [], [], none⟩, ⟨false, some [0, 1, 2, 3, 4], [(2, [(t 8, 4, true)])], [], none⟩] = some (c_laws_FnExactBlowUp, r_laws_FnExactBlowUp) := by kernel_rfl
end Go.Proofs.YtkgodhdpcomjbaaAi
end

section
/- Contracts: joined parts of patterns. (Under way.) -/
namespace Go.Proofs.YtkgodhdpcomjbaaAi
open Go Go.RowKit
set_option linter.unusedVariables false
set_option linter.unusedSimpArgs false
set_option maxRecDepth 20000

noncomputable def sp_sizeOk : List AV → Option (AV) := pf (ι := (Int)) (α := AV) (fun n => True) (fun n => [.int .i64 n]) (fun n => .bool (decide (0 ≤ n) && decide (n ≤ 5)))
theorem sp_sizeOk_eq (n : Int) : sp_sizeOk [.int .i64 n] = some (.bool (decide (0 ≤ n) && decide (n ≤ 5))) := by
  unfold sp_sizeOk
  exact pf_eq (ι := (Int)) (α := AV) n trivial (by rintro n' _ e; simp_all [Int.natCast_inj])
attribute [simp] sp_sizeOk_eq
theorem q_impl_sizeOk : QP PP 78 sp_sizeOk := by
  refine QP_pf (fun n h => ?_) fun n h => ?_
  · exact ⟨by first | rfl | simp, by first | rfl | simp⟩
  replace h : True := h
  refine P_code (Quiet.q1 q_impl_in Quiet.nil) hmix k_impl_sizeOk rfl ?_ ?_
  · first | rfl | simp
  show wpc 0 PP _ c_impl_sizeOk (initSt [.int .i64 n] .nil) (endP r_impl_sizeOk (.bool (decide (0 ≤ n) && decide (n ≤ 5))))
  simp -dsimp -implicitDefEqProofs [c_impl_sizeOk, r_impl_sizeOk]
theorem shrBit {l i : Nat} (hl : l < 4294967296) (hi : i < 5) : (IntKind.u32.wrap ((((l : Int).fdiv (2 ^ min i IntKind.u32.bits) % 2 ^ IntKind.u32.bits).toNat &&& 1 % 2 ^ IntKind.u32.bits : Nat)) == 1) = l.testBit i := by
  have e0 : min i IntKind.u32.bits = i := Nat.min_eq_left (by simp only [IntKind.bits]; omega)
  have e1 : (2 : Int) ^ i = ((2 ^ i : Nat) : Int) := by simp
  have hq : l / 2 ^ i ≤ l := Nat.div_le_self _ _
  have e2 : ((l : Int).fdiv (2 ^ i) % 2 ^ IntKind.u32.bits).toNat = l / 2 ^ i := by
    rw [e1]
    generalize 2 ^ i = c at hq
    rw [Int.fdiv_eq_ediv_of_nonneg _ (Int.natCast_nonneg c), ← Int.natCast_ediv]
    generalize l / c = d at hq
    rw [Int.emod_eq_of_lt (by omega) (by simp only [IntKind.bits]; omega)]
    simp
  rw [e0, e2, show (1 : Nat) % 2 ^ IntKind.u32.bits = 1 from rfl, Nat.and_one_is_mod, wrap32 (by omega) (by omega), Nat.testBit_eq_decide_div_mod_eq]
  generalize l / 2 ^ i = d
  rw [Bool.eq_iff_iff, beq_iff_eq, decide_eq_true_eq]
  omega
def loopB (l i : Int) : Bool := l.toNat.testBit i.toNat
noncomputable def sp_loopP : List (Option (List AV)) → List AV → Option (AV × List (Option (List AV))) := pv (pf (ι := (Int) × (Int) × (Int) × (List Fr) × (Int)) (α := AV × List (Option (List AV))) (fun ⟨n, e, l, ps, i⟩ => (0 ≤ l ∧ l ≤ 4294967295) ∧ (0 ≤ i ∧ i < 5)) (fun i => .agg (((fun ⟨n, e, l, ps, i⟩ => [some [.int .i64 n, .int .u32 e, .int .u32 l, .sl (frsA ps) false]] : (Int) × (Int) × (Int) × (List Fr) × (Int) → List (Option (List AV))) i).map enO) :: (fun ⟨n, e, l, ps, i⟩ => [.ptr 0 0, .int .i64 i] : (Int) × (Int) × (Int) × (List Fr) × (Int) → List AV) i) (fun ⟨n, e, l, ps, i⟩ => (.bool (loopB l i), [some [.int .i64 n, .int .u32 e, .int .u32 l, .sl (frsA ps) false]])))
theorem sp_loopP_eq (n e l : Int) (ps : List Fr) (i : Int) (h : (0 ≤ l ∧ l ≤ 4294967295) ∧ (0 ≤ i ∧ i < 5)) : sp_loopP [some [.int .i64 n, .int .u32 e, .int .u32 l, .sl (frsA ps) false]] [.ptr 0 0, .int .i64 i] = some (.bool (loopB l i), [some [.int .i64 n, .int .u32 e, .int .u32 l, .sl (frsA ps) false]]) := by
  unfold sp_loopP pv
  exact pf_eq (ι := (Int) × (Int) × (Int) × (List Fr) × (Int)) (α := AV × List (Option (List AV))) (n, e, l, ps, i) h (by rintro ⟨n', e', l', ps', i'⟩ _ e; simp_all [enO, Int.natCast_inj])
theorem v_impl_Pattern_loop : QV PP 146 sp_loopP := by
  refine QV_pf fun i h => ?_
  obtain ⟨n, e, l, ps, i⟩ := i
  replace h : (0 ≤ l ∧ l ≤ 4294967295) ∧ (0 ≤ i ∧ i < 5) := h
  refine H_code Quiet.nil hmix k_impl_Pattern_loop rfl (fun b => b) (by simp [AHeap.n]) (fun _ _ => rfl) (by rfl) (by first | rfl | simp) ?_
  show wpc _ PP _ c_impl_Pattern_loop (initSt [.ptr 0 0, .int .i64 i] ⟨[some [.int .i64 n, .int .u32 e, .int .u32 l, .sl (frsA ps) false]]⟩) (endH (fun b => b) r_impl_Pattern_loop (.bool (loopB l i)) [some [.int .i64 n, .int .u32 e, .int .u32 l, .sl (frsA ps) false]])
  obtain ⟨⟨l0, l1⟩, i0, i1⟩ := h
  obtain ⟨m, rfl⟩ := Int.eq_ofNat_of_zero_le l0
  have hn : ¬ i < 0 := by omega
  have hb := shrBit (l := m) (i := i.toNat) (by omega) (by omega)
  simp -dsimp -implicitDefEqProofs [c_impl_Pattern_loop, r_impl_Pattern_loop, hn, hb, loopB, hsub]
def joinB (e l i j : Int) : Bool := if i = j then loopB l i else hasB e i j
noncomputable def sp_joinP : List (Option (List AV)) → List AV → Option (AV × List (Option (List AV))) := pv (pf (ι := (Int) × (Int) × (Int) × (List Fr) × (Int) × (Int)) (α := AV × List (Option (List AV))) (fun ⟨n, e, l, ps, i, j⟩ => ((0 ≤ e ∧ e ≤ 4294967295) ∧ (0 ≤ l ∧ l ≤ 4294967295)) ∧ (0 ≤ i ∧ i < 5) ∧ (0 ≤ j ∧ j < 5)) (fun i => .agg (((fun ⟨n, e, l, ps, i, j⟩ => [some [.int .i64 n, .int .u32 e, .int .u32 l, .sl (frsA ps) false]] : (Int) × (Int) × (Int) × (List Fr) × (Int) × (Int) → List (Option (List AV))) i).map enO) :: (fun ⟨n, e, l, ps, i, j⟩ => [.ptr 0 0, .int .i64 i, .int .i64 j] : (Int) × (Int) × (Int) × (List Fr) × (Int) × (Int) → List AV) i) (fun ⟨n, e, l, ps, i, j⟩ => (.bool (joinB e l i j), [some [.int .i64 n, .int .u32 e, .int .u32 l, .sl (frsA ps) false]])))
theorem sp_joinP_eq (n e l : Int) (ps : List Fr) (i j : Int) (h : ((0 ≤ e ∧ e ≤ 4294967295) ∧ (0 ≤ l ∧ l ≤ 4294967295)) ∧ (0 ≤ i ∧ i < 5) ∧ (0 ≤ j ∧ j < 5)) : sp_joinP [some [.int .i64 n, .int .u32 e, .int .u32 l, .sl (frsA ps) false]] [.ptr 0 0, .int .i64 i, .int .i64 j] = some (.bool (joinB e l i j), [some [.int .i64 n, .int .u32 e, .int .u32 l, .sl (frsA ps) false]]) := by
  unfold sp_joinP pv
  exact pf_eq (ι := (Int) × (Int) × (Int) × (List Fr) × (Int) × (Int)) (α := AV × List (Option (List AV))) (n, e, l, ps, i, j) h (by rintro ⟨n', e', l', ps', i', j'⟩ _ e; simp_all [enO, Int.natCast_inj])
theorem v_impl_Pattern_joined : QV PP 82 sp_joinP := by
  refine QV_pf fun i h => ?_
  obtain ⟨n, e, l, ps, i, j⟩ := i
  replace h : ((0 ≤ e ∧ e ≤ 4294967295) ∧ (0 ≤ l ∧ l ≤ 4294967295)) ∧ (0 ≤ i ∧ i < 5) ∧ (0 ≤ j ∧ j < 5) := h
  refine H_code (Quiet.q1 q_impl_Graph_has (Quiet.e1 v_impl_Pattern_loop.toE Quiet.nil)) hmix k_impl_Pattern_joined rfl (fun b => b) (by simp [AHeap.n]) (fun _ _ => rfl) (by rfl) (by first | rfl | simp) ?_
  show wpc _ PP _ c_impl_Pattern_joined (initSt [.ptr 0 0, .int .i64 i, .int .i64 j] ⟨[some [.int .i64 n, .int .u32 e, .int .u32 l, .sl (frsA ps) false]]⟩) (endH (fun b => b) r_impl_Pattern_joined (.bool (joinB e l i j)) [some [.int .i64 n, .int .u32 e, .int .u32 l, .sl (frsA ps) false]])
  by_cases hij : i = j
  · subst hij
    simp -dsimp -implicitDefEqProofs [c_impl_Pattern_joined, r_impl_Pattern_joined, sp_loopP_eq n e l ps i ⟨h.1.2, h.2.1⟩, joinB, hsub]
  · have hb : (i == j) = false := by simpa using hij
    simp -dsimp -implicitDefEqProofs [c_impl_Pattern_joined, r_impl_Pattern_joined, hb, hij, sp_has_eq n e i j ⟨h.1.1, h.2.1, h.2.2, hij⟩, joinB, hsub]
end Go.Proofs.YtkgodhdpcomjbaaAi
end

section
/- Contracts: joined vertices, as the reference has them. (Under way.) -/
namespace Go.Proofs.YtkgodhdpcomjbaaAi
open Go Go.RowKit
set_option linter.unusedVariables false
set_option linter.unusedSimpArgs false
set_option maxRecDepth 20000

/-- A contract that says nothing: for a call that does not come. -/
theorem QP.none (P : Program) (f : FuncId) : QP P f (fun _ => Option.none) := fun _ _ h => by cases h
noncomputable def sp_bitLe : List AV → Option (AV) := pf (ι := (Int) × (Int)) (α := AV) (fun ⟨i, j⟩ => (0 ≤ i ∧ i ≤ 5) ∧ (0 ≤ j ∧ j ≤ 5) ∧ i ≤ j) (fun ⟨i, j⟩ => [.int .i64 i, .int .i64 j]) (fun ⟨i, j⟩ => .int .u32 (2 ^ bitI i.toNat j.toNat))
theorem sp_bitLe_eq (i j : Int) (h : (0 ≤ i ∧ i ≤ 5) ∧ (0 ≤ j ∧ j ≤ 5) ∧ i ≤ j) : sp_bitLe [.int .i64 i, .int .i64 j] = some (.int .u32 (2 ^ bitI i.toNat j.toNat)) := by
  unfold sp_bitLe
  exact pf_eq (ι := (Int) × (Int)) (α := AV) (i, j) h (by rintro ⟨i', j'⟩ _ e; simp_all [Int.natCast_inj])
theorem q_bitLe : QP PP 75 sp_bitLe := by
  refine QP_pf (fun i h => ?_) fun i h => ?_
  · obtain ⟨i, j⟩ := i; exact ⟨rfl, rfl⟩
  obtain ⟨i, j⟩ := i
  replace h : (0 ≤ i ∧ i ≤ 5) ∧ (0 ≤ j ∧ j ≤ 5) ∧ i ≤ j := h
  refine P_code (Quiet.q1 (QP.none PP 75) (Quiet.q1 q_spec_l01Bits Quiet.nil)) hmix k_spec_l01Bit rfl rfl ?_
  obtain ⟨⟨i0, i1⟩, ⟨j0, j1⟩, hij⟩ := h
  have hj : j = 0 ∨ j = 1 ∨ j = 2 ∨ j = 3 ∨ j = 4 ∨ j = 5 := by omega
  have hi : i = 0 ∨ i = 1 ∨ i = 2 ∨ i = 3 ∨ i = 4 ∨ i = 5 := by omega
  rcases hi with rfl | rfl | rfl | rfl | rfl | rfl <;> rcases hj with rfl | rfl | rfl | rfl | rfl | rfl <;> first | (exfalso; omega) | simp -dsimp -implicitDefEqProofs [c_spec_l01Bit, r_spec_l01Bit, sp_pairs_eq, pI0, pI1, pI2, pI3, pI4, pI5, bitI, IntKind.wrap, IntKind.bits, IntKind.signed]
theorem q_spec_l01Bit : QP PP 75 sp_bit := by
  refine QP_pf (fun i h => ?_) fun i h => ?_
  · obtain ⟨i, j⟩ := i; exact ⟨rfl, rfl⟩
  obtain ⟨i, j⟩ := i
  replace h : (0 ≤ i ∧ i ≤ 5) ∧ (0 ≤ j ∧ j ≤ 5) := h
  by_cases hij : i ≤ j
  · exact (q_bitLe _ _ (sp_bitLe_eq i j ⟨h.1, h.2, hij⟩)).2
  · refine P_code (Quiet.q1 q_bitLe (Quiet.q1 q_spec_l01Bits Quiet.nil)) hmix k_spec_l01Bit rfl rfl ?_
    have hlt : j < i := by omega
    simp -dsimp -implicitDefEqProofs [c_spec_l01Bit, r_spec_l01Bit, hlt, sp_bitLe_eq j i ⟨h.2, h.1, by omega⟩, bitI_c (i := j.toNat) (j := i.toNat)]
def joinedB (e i j : Int) : Bool := decide (i ≠ j) && hasB e i j
noncomputable def sp_l01Joined : List AV → Option (AV) := pf (ι := (Int) × (Int) × (Int) × (Int)) (α := AV) (fun ⟨n, e, i, j⟩ => (0 ≤ e ∧ e ≤ 4294967295) ∧ (0 ≤ i ∧ i < 5) ∧ (0 ≤ j ∧ j < 5)) (fun ⟨n, e, i, j⟩ => [.agg [.int .i64 n, .int .u32 e], .int .i64 i, .int .i64 j]) (fun ⟨n, e, i, j⟩ => .bool (joinedB e i j))
theorem sp_l01Joined_eq (n e i j : Int) (h : (0 ≤ e ∧ e ≤ 4294967295) ∧ (0 ≤ i ∧ i < 5) ∧ (0 ≤ j ∧ j < 5)) : sp_l01Joined [.agg [.int .i64 n, .int .u32 e], .int .i64 i, .int .i64 j] = some (.bool (joinedB e i j)) := by
  unfold sp_l01Joined
  exact pf_eq (ι := (Int) × (Int) × (Int) × (Int)) (α := AV) (n, e, i, j) h (by rintro ⟨n', e', i', j'⟩ _ e; simp_all [Int.natCast_inj])
theorem q_spec_l01Joined : QP PP 142 sp_l01Joined := by
  refine QP_pf (fun i h => ?_) fun i h => ?_
  · obtain ⟨n, e, i, j⟩ := i; exact ⟨by first | rfl | simp, by first | rfl | simp⟩
  obtain ⟨n, e, i, j⟩ := i
  replace h : (0 ≤ e ∧ e ≤ 4294967295) ∧ (0 ≤ i ∧ i < 5) ∧ (0 ≤ j ∧ j < 5) := h
  refine P_code (Quiet.q1 q_spec_l01Bit Quiet.nil) hmix k_spec_l01Joined rfl ?_ ?_
  · first | rfl | simp
  show wpc 0 PP _ c_spec_l01Joined (initSt [.agg [.int .i64 n, .int .u32 e], .int .i64 i, .int .i64 j] .nil) (endP r_spec_l01Joined (.bool (joinedB e i j)))
  obtain ⟨⟨e0, e1⟩, ⟨i0, i1⟩, ⟨j0, j1⟩⟩ := h
  by_cases hij : i = j
  · subst hij
    simp -dsimp -implicitDefEqProofs [c_spec_l01Joined, r_spec_l01Joined, joinedB]
  · obtain ⟨m, rfl⟩ := Int.eq_ofNat_of_zero_le e0
    have hb := andBit (a := m) (b := bitI i.toNat j.toNat) (by omega) (bitI_10 (by omega) (by omega) (by omega))
    have hn : (i != j) = true := by simpa using hij
    simp -dsimp -implicitDefEqProofs [c_spec_l01Joined, r_spec_l01Joined, hn, sp_bit_eq i j (by omega), hb, joinedB, hasB, hij]
    have hp : (2 : Int) ^ bitI i.toNat j.toNat ≠ 0 := Int.pow_ne_zero (by omega)
    cases m.testBit (bitI i.toNat j.toNat) <;> simp [hp]
theorem v_spec_l07Joined : QV PP 74 sp_joinP := by
  refine QV_pf fun i h => ?_
  obtain ⟨n, e, l, ps, i, j⟩ := i
  replace h : ((0 ≤ e ∧ e ≤ 4294967295) ∧ (0 ≤ l ∧ l ≤ 4294967295)) ∧ (0 ≤ i ∧ i < 5) ∧ (0 ≤ j ∧ j < 5) := h
  refine H_code (Quiet.q1 q_spec_l01Joined Quiet.nil) hmix k_spec_l07Joined rfl (fun b => b) (by simp [AHeap.n]) (fun _ _ => rfl) (by rfl) (by first | rfl | simp) ?_
  show wpc _ PP _ c_spec_l07Joined (initSt [.ptr 0 0, .int .i64 i, .int .i64 j] ⟨[some [.int .i64 n, .int .u32 e, .int .u32 l, .sl (frsA ps) false]]⟩) (endH (fun b => b) r_spec_l07Joined (.bool (joinB e l i j)) [some [.int .i64 n, .int .u32 e, .int .u32 l, .sl (frsA ps) false]])
  by_cases hij : i = j
  · subst hij
    obtain ⟨⟨he, l0, l1⟩, ⟨i0, i1⟩, _⟩ := h
    obtain ⟨m, rfl⟩ := Int.eq_ofNat_of_zero_le l0
    have hu : IntKind.u64.wrap i = i := wrapU64 (by omega) (by omega)
    have hn : ¬ i < 0 := by omega
    have hb := shrBit (l := m) (i := i.toNat) (by omega) (by omega)
    simp -dsimp -implicitDefEqProofs [c_spec_l07Joined, r_spec_l07Joined, hu, hn, hb, joinB, loopB, hsub]
  · have hb : (i == j) = false := by simpa using hij
    simp -dsimp -implicitDefEqProofs [c_spec_l07Joined, r_spec_l07Joined, hb, hij, sp_l01Joined_eq n e i j ⟨h.1.1, h.2.1, h.2.2⟩, joinedB, joinB, hsub]
end Go.Proofs.YtkgodhdpcomjbaaAi
end

section
/- Contracts: opposite patterns. -/
namespace Go.Proofs.YtkgodhdpcomjbaaAi
open Go Go.RowKit
set_option linter.unusedVariables false
set_option linter.unusedSimpArgs false
set_option maxRecDepth 20000

theorem xorU {a b : Nat} (ha : a < 4294967296) (hb : b < 4294967296) : IntKind.u32.wrap ((((a : Int) % 2 ^ IntKind.u32.bits).toNat ^^^ ((b : Int) % 2 ^ IntKind.u32.bits).toNat : Nat)) = ((a ^^^ b : Nat) : Int) := by
  have e : ∀ c : Nat, c < 4294967296 → ((c : Int) % 2 ^ IntKind.u32.bits).toNat = c := fun c hc => by
    rw [Int.emod_eq_of_lt (by omega) (by simp only [IntKind.bits]; omega)]
    simp
  rw [e a ha, e b hb]
  have := Nat.xor_lt_two_pow (n := 32) (x := a) (y := b) (by omega) (by omega)
  exact wrap32 (by omega) (by omega)
theorem xorN {a b : Nat} (ha : a < 4294967296) (hb : b < 4294967296) : IntKind.u32.wrap ((a % 2 ^ IntKind.u32.bits ^^^ b % 2 ^ IntKind.u32.bits : Nat)) = ((a ^^^ b : Nat) : Int) := by
  rw [Nat.mod_eq_of_lt (by simp only [IntKind.bits]; omega), Nat.mod_eq_of_lt (by simp only [IntKind.bits]; omega)]
  have := Nat.xor_lt_two_pow (n := 32) (x := a) (y := b) (by omega) (by omega)
  exact wrap32 (by omega) (by omega)
theorem graphOk_lt {n e : Int} (h : graphOk n e = true) (he : 0 ≤ e) : (0 ≤ n ∧ n ≤ 5) ∧ e.toNat < 2 ^ (n.toNat * (n.toNat - 1) / 2) := by
  obtain ⟨hn, hlt⟩ := of_decide_eq_true h
  refine ⟨hn, ?_⟩
  obtain ⟨m, rfl⟩ := Int.eq_ofNat_of_zero_le he
  rcases tri_pow hn with rfl | rfl | rfl | rfl | rfl | rfl <;> simp [pI0, pI1, pI2, pI3, pI4, pI5] at hlt ⊢ <;> omega
def oppG (n e : Int) : AV := if graphOk n e = true then .tup [.agg [.int .i64 n, .int .u32 (notE e n)], .int .i64 0] else .tup [.agg [.int .i64 0, .int .u32 0], .int .i64 1]
@[simp] theorem oppG_lt (n e : Int) (k : Nat) : (oppG n e).lt k = true := by unfold oppG; split <;> rfl
noncomputable def sp_oppG : List AV → Option (AV) := pf (ι := (Int) × (Int)) (α := AV) (fun ⟨n, e⟩ => 0 ≤ e ∧ e ≤ 4294967295) (fun ⟨n, e⟩ => [.agg [.int .i64 n, .int .u32 e]]) (fun ⟨n, e⟩ => oppG n e)
theorem sp_oppG_eq (n e : Int) (h : 0 ≤ e ∧ e ≤ 4294967295) : sp_oppG [.agg [.int .i64 n, .int .u32 e]] = some (oppG n e) := by
  unfold sp_oppG
  exact pf_eq (ι := (Int) × (Int)) (α := AV) (n, e) h (by rintro ⟨n', e'⟩ _ e; simp_all [Int.natCast_inj])
theorem q_spec_OppositeGraph : QP PP 63 sp_oppG := by
  refine QP_pf (fun i h => ?_) fun i h => ?_
  · obtain ⟨n, e⟩ := i; exact ⟨by first | rfl | simp, by first | rfl | simp⟩
  obtain ⟨n, e⟩ := i
  replace h : 0 ≤ e ∧ e ≤ 4294967295 := h
  refine P_code (Quiet.q1 q_spec_l01Ok (Quiet.q1 q_spec_CompleteGraph Quiet.nil)) hmix k_spec_OppositeGraph rfl ?_ ?_
  · first | rfl | simp
  show wpc 0 PP _ c_spec_OppositeGraph (initSt [.agg [.int .i64 n, .int .u32 e]] .nil) (endP r_spec_OppositeGraph (oppG n e))
  cases hg : graphOk n e with
  | false => simp -dsimp -implicitDefEqProofs [c_spec_OppositeGraph, r_spec_OppositeGraph, sp_graphOk_eq n e h, hg, oppG]
  | true =>
    obtain ⟨hn, hlt⟩ := graphOk_lt hg h.1
    obtain ⟨m, rfl⟩ := Int.eq_ofNat_of_zero_le h.1
    have hr : compR n = .tup [.agg [.int .i64 n, .int .u32 (2 ^ (n.toNat * (n.toNat - 1) / 2) - 1 : Nat)], .int .i64 0] := if_pos hn
    have hx := xor_made (n := n.toNat) (e := m) (by simpa using hlt)
    have hle : 2 ^ (n.toNat * (n.toNat - 1) / 2) - 1 < 4294967296 := by
      rcases tri_pow hn with rfl | rfl | rfl | rfl | rfl | rfl <;> decide
    generalize 2 ^ (n.toNat * (n.toNat - 1) / 2) - 1 = F at hr hx hle
    have h1 := xorN (a := F) (b := m) hle (by omega)
    rw [hx] at h1
    simp -dsimp -implicitDefEqProofs [c_spec_OppositeGraph, r_spec_OppositeGraph, sp_graphOk_eq n m h, hg, oppG, hr, h1, notE, hasB]

noncomputable def sp_l07Copy : List AV → List AV → Option (AV × List (Option (List AV))) := pb (pf (ι := (Int) × (Int) × (Int) × (List Fr)) (α := AV × List (Option (List AV))) (fun ⟨n, e, l, ps⟩ => ps ≠ [] ∧ ps.length ≤ 1048576) (fun i => .agg ((fun ⟨n, e, l, ps⟩ => [.int .i64 n, .int .u32 e, .int .u32 l, .sl (frsA ps) false] : (Int) × (Int) × (Int) × (List Fr) → List AV) i) :: (fun ⟨n, e, l, ps⟩ => [.ptr 0 0] : (Int) × (Int) × (Int) × (List Fr) → List AV) i) (fun ⟨n, e, l, ps⟩ => (.agg [.int .i64 n, .int .u32 e, .int .u32 l, .ref 1 2 0 ps.length .full], [some [.int .i64 n, .int .u32 e, .int .u32 l, .sl (frsA ps) false], some (flatA (frsA ps))])))
theorem sp_l07Copy_eq (n e l : Int) (ps : List Fr) (h : ps ≠ [] ∧ ps.length ≤ 1048576) : sp_l07Copy [.int .i64 n, .int .u32 e, .int .u32 l, .sl (frsA ps) false] [.ptr 0 0] = some (.agg [.int .i64 n, .int .u32 e, .int .u32 l, .ref 1 2 0 ps.length .full], [some [.int .i64 n, .int .u32 e, .int .u32 l, .sl (frsA ps) false], some (flatA (frsA ps))]) := by
  unfold sp_l07Copy pb
  exact pf_eq (ι := (Int) × (Int) × (Int) × (List Fr)) (α := AV × List (Option (List AV))) (n, e, l, ps) h (by rintro ⟨n', e', l', ps'⟩ _ e; simp_all [Int.natCast_inj])
theorem b_spec_l07Copy : QB PP 62 sp_l07Copy := by
  refine QB_pf (fun i h => ?_) fun i h => ?_
  · obtain ⟨n, e, l, ps⟩ := i; exact ⟨by first | rfl | simp, by first | rfl | simp, by first | simp⟩
  obtain ⟨n, e, l, ps⟩ := i
  replace h : ps ≠ [] ∧ ps.length ≤ 1048576 := h
  refine H_code Quiet.nil hmix k_spec_l07Copy rfl (fun b => if b = 0 then 0 else 3) (by simp [AHeap.n]) (by intro b hb; simp [AHeap.n] at hb; subst hb; rfl) (by rfl) (by first | rfl | simp) ?_
  show wpc 1 PP _ c_spec_l07Copy (initSt [.ptr 0 0] ⟨[some [.int .i64 n, .int .u32 e, .int .u32 l, .sl (frsA ps) false]]⟩) (endH (fun b => if b = 0 then 0 else 3) r_spec_l07Copy (.agg [.int .i64 n, .int .u32 e, .int .u32 l, .ref 1 2 0 ps.length .full]) [some [.int .i64 n, .int .u32 e, .int .u32 l, .sl (frsA ps) false], some (flatA (frsA ps))])
  have hl : ps.length * 17 ≤ mostBytes := by simp only [mostBytes]; omega
  simp -dsimp -implicitDefEqProofs [c_spec_l07Copy, r_spec_l07Copy, h.1, hl, hsub]

noncomputable def sp_cloneFr : List AV → Option (AV × List (Option (List AV))) := pf (ι := (List Fr)) (α := AV × List (Option (List AV))) (fun ps => ps ≠ [] ∧ ps.length ≤ 1048576) (fun ps => [.sl (frsA ps) false]) (fun ps => (.ref 0 2 0 ps.length .full, [some (flatA (frsA ps))]))
theorem sp_cloneFr_eq (ps : List Fr) (h : ps ≠ [] ∧ ps.length ≤ 1048576) : sp_cloneFr [.sl (frsA ps) false] = some ((.ref 0 2 0 ps.length .full, [some (flatA (frsA ps))])) := by
  unfold sp_cloneFr
  exact pf_eq (ι := (List Fr)) (α := AV × List (Option (List AV))) ps h (by rintro ps' _ e; simp_all [Int.natCast_inj])
theorem n_slices_Clone_Simpl_Fraction_impl_Fraction : QN PP 67 sp_cloneFr := by
  refine QN_pf (fun ps h => ?_) fun ps h => ?_
  · first | rfl | simp
  replace h : ps ≠ [] ∧ ps.length ≤ 1048576 := h
  show T PP 67 [.sl (frsA ps) false] .nil fun r' A' => r' = (((.ref 0 2 0 ps.length .full, [some (flatA (frsA ps))]) : AV × List (Option (List AV)))).1 ∧ A' = ⟨(((.ref 0 2 0 ps.length .full, [some (flatA (frsA ps))]) : AV × List (Option (List AV)))).2⟩
  have hl : ps.length * 17 ≤ mostBytes := by simp only [mostBytes]; omega
  refine H_code Quiet.nil hmix k_slices_Clone_Simpl_Fraction_impl_Fraction rfl (fun _ => 1) (by simp [AHeap.n, AHeap.nil]) (by intro b hb; simp [AHeap.n, AHeap.nil] at hb <;> subst hb <;> rfl) (by rfl) (by first | rfl | simp) ?_
  simp -dsimp -implicitDefEqProofs [c_slices_Clone_Simpl_Fraction_impl_Fraction, r_slices_Clone_Simpl_Fraction_impl_Fraction, h.1, hl, hsub]

end Go.Proofs.YtkgodhdpcomjbaaAi
end

section
/- Contracts: marks in patterns. -/
namespace Go.Proofs.YtkgodhdpcomjbaaAi
open Go Go.RowKit
set_option linter.unusedVariables false
set_option linter.unusedSimpArgs false
set_option maxRecDepth 20000

def kOk (k : Int) : Prop := 0 ≤ k ∧ k ≤ 1099511627776
noncomputable def sp_markFr : List (Option (List AV)) → List AV → Option (AV × List (Option (List AV))) := pv (pf (ι := (List Fr) × (Int) × (Cp)) (α := AV × List (Option (List AV))) (fun ⟨ps, k, t⟩ => kOk k ∧ ps.length ≤ 1048576) (fun i => .agg (((fun ⟨ps, k, t⟩ => [some (flatA (frsA ps))] : (List Fr) × (Int) × (Cp) → List (Option (List AV))) i).map enO) :: (fun ⟨ps, k, t⟩ => [.ref 0 2 0 ps.length t, .int .i64 k] : (List Fr) × (Int) × (Cp) → List AV) i) (fun ⟨ps, k, t⟩ => (.int .i64 (k + 2 * ps.length), [some (flatA (frsA (marksF ps.length k)))])))
theorem sp_markFr_eq (ps : List Fr) (k : Int) (t : Cp) (h : kOk k ∧ ps.length ≤ 1048576) : sp_markFr [some (flatA (frsA ps))] [.ref 0 2 0 ps.length t, .int .i64 k] = some (.int .i64 (k + 2 * ps.length), [some (flatA (frsA (marksF ps.length k)))]) := by
  unfold sp_markFr pv
  exact pf_eq (ι := (List Fr) × (Int) × (Cp)) (α := AV × List (Option (List AV))) (ps, k, t) h (by rintro ⟨ps', k', t'⟩ _ e; simp_all [enO, Int.natCast_inj])
theorem v_laws_markFractionS : QV PP 51 sp_markFr := by
  refine QV_pf fun i h => ?_
  obtain ⟨ps, k, t⟩ := i
  replace h : kOk k ∧ ps.length ≤ 1048576 := h
  refine H_code Quiet.nil hmix k_laws_markFractionS rfl (fun b => b) (by simp [AHeap.n]) (fun _ _ => rfl) (by rfl) (by first | rfl | simp) ?_
  show wpc _ PP _ c_laws_markFractionS (initSt [.ref 0 2 0 ps.length t, .int .i64 k] ⟨[some (flatA (frsA ps))]⟩) (endH (fun b => b) r_laws_markFractionS (.int .i64 (k + 2 * ps.length)) [some (flatA (frsA (marksF ps.length k)))])
  obtain ⟨hk, hl⟩ := h
  unfold kOk at hk
  simp -dsimp -implicitDefEqProofs [c_laws_markFractionS, r_laws_markFractionS]
  refine wpLoop_st (fun (i : Nat × List Fr) => ⟨tl [(0, .ref 0 2 0 ps.length t), (1, .int .i64 (k + 2 * i.1)), (5, .int .i64 i.1)], ⟨[some (flatA (frsA i.2))]⟩⟩) (fun i => i.1 ≤ ps.length ∧ i.2.length = ps.length ∧ i.2 = (marksF ps.length k).take i.1 ++ ps.drop i.1) (fun i => ps.length - i.1) (0, ps) ⟨by simp, rfl, by simp⟩ (Sub.keep (by simp) (by simp [hsub]) (by simp)) ?_
  rintro ⟨i, L⟩ ⟨h1, h2, h3⟩
  simp only at h1 h2 h3
  simp -dsimp -implicitDefEqProofs
  refine brW_of (fun h => ?_) (fun h => ?_) <;> simp only [decide_eq_true_eq, decide_eq_false_iff_not] at h
  · have hi : i < ps.length := by simpa using h
    have w1 : IntKind.i64.wrap (k + 2 * (i : Int) + 1) = k + 2 * i + 1 := wrapI64 (by omega) (by omega)
    have w2 : IntKind.i64.wrap (k + 2 * (i : Int) + 1 + 1) = k + 2 * i + 1 + 1 := wrapI64 (by omega) (by omega)
    have hw := wrapNat (i := i) (by omega)
    have f1 : i * 2 + 1 ≤ L.length * 2 := by omega
    have f2 : i * 2 + 1 + 1 ≤ L.length * 2 := by omega
    have hs := set_fr L i (k + 2 * i) (k + 2 * i + 1) (by omega)
    simp -dsimp -implicitDefEqProofs [hi, w1, w2, hw, f1, f2, hs]
    refine .mk (i + 1, L.set i ⟨k + 2 * i, k + 2 * i + 1⟩) ⟨by simp only; omega, by simp [h2], ?_⟩ (by simp only; omega) (Sub.keep (by simp) (by simp [hsub]) (by simp [w2, hw]; omega))
    simp only
    rw [h3]
    exact marks_step ps k i hi
  · have hi : i = ps.length := by simp at h; omega
    subst hi
    rw [marks_end] at h3
    subst h3
    simp -dsimp -implicitDefEqProofs [hsub]
noncomputable def sp_markFr0 : List AV → Option (AV) := pf (ι := (Int)) (α := AV) (fun k => True) (fun k => [.sl [] false, .int .i64 k]) (fun k => .int .i64 k)
theorem sp_markFr0_eq (k : Int) : sp_markFr0 [.sl [] false, .int .i64 k] = some (.int .i64 k) := by
  unfold sp_markFr0
  exact pf_eq (ι := (Int)) (α := AV) k trivial (by rintro k' _ e; simp_all [Int.natCast_inj])
attribute [simp] sp_markFr0_eq
theorem q_laws_markFractionS : QP PP 51 sp_markFr0 := by
  refine QP_pf (fun k h => ?_) fun k h => ?_
  · exact ⟨by first | rfl | simp, by first | rfl | simp⟩
  replace h : True := h
  refine P_code Quiet.nil hmix k_laws_markFractionS rfl ?_ ?_
  · first | rfl | simp
  show wpc 0 PP _ c_laws_markFractionS (initSt [.sl [] false, .int .i64 k] .nil) (endP r_laws_markFractionS (.int .i64 k))
  simp -dsimp -implicitDefEqProofs [c_laws_markFractionS, r_laws_markFractionS]
  refine wpLoop_st (fun (_ : Unit) => ⟨tl [(0, .sl [] false), (1, .int .i64 k), (5, .int .i64 0)], ⟨[]⟩⟩) (fun _ => True) (fun _ => 0) () trivial (Sub.keep (by simp) (by simp [hsub]) (by simp)) ?_
  intro _ _
  simp -dsimp -implicitDefEqProofs
theorem e_laws_markFractionS : QE PP 51 (refE (spV sp_markFr) (spR sp_markFr0)) := QE.ref v_laws_markFractionS.toE q_laws_markFractionS.toR
noncomputable def sp_heldFr : List AV → Option (AV) := pf (ι := (Nat) × (Int)) (α := AV) (fun ⟨n, k⟩ => kOk k ∧ n ≤ 1048576) (fun ⟨n, k⟩ => [.sl (frsA (marksF n k)) false, .int .i64 k]) (fun ⟨n, k⟩ => .int .i64 (k + 2 * n))
theorem sp_heldFr_eq (n : Nat) (k : Int) (h : kOk k ∧ n ≤ 1048576) : sp_heldFr [.sl (frsA (marksF n k)) false, .int .i64 k] = some (.int .i64 (k + 2 * n)) := by
  unfold sp_heldFr
  exact pf_eq (ι := (Nat) × (Int)) (α := AV) (n, k) h (by rintro ⟨n', k'⟩ _ e; simp_all [Int.natCast_inj])
theorem q_laws_heldFractionS : QP PP 52 sp_heldFr := by
  refine QP_pf (fun i h => ?_) fun i h => ?_
  · obtain ⟨n, k⟩ := i; exact ⟨by first | rfl | simp, by first | rfl | simp⟩
  obtain ⟨n, k⟩ := i
  replace h : kOk k ∧ n ≤ 1048576 := h
  refine P_code Quiet.nil hmix k_laws_heldFractionS rfl ?_ ?_
  · first | rfl | simp
  show wpc 0 PP _ c_laws_heldFractionS (initSt [.sl (frsA (marksF n k)) false, .int .i64 k] .nil) (endP r_laws_heldFractionS (.int .i64 (k + 2 * n)))
  obtain ⟨hk, hl⟩ := h
  unfold kOk at hk
  simp -dsimp -implicitDefEqProofs [c_laws_heldFractionS, r_laws_heldFractionS]
  refine wpLoop_st (fun (i : Nat) => ⟨tl [(0, .sl (frsA (marksF n k)) false), (1, .int .i64 (k + 2 * i)), (5, .int .i64 i)], ⟨[]⟩⟩) (fun i => i ≤ n) (fun i => n - i) 0 (by omega) (Sub.keep (by simp) (by simp [hsub]) (by simp)) ?_
  intro i hi
  simp -dsimp -implicitDefEqProofs
  refine brW_of (fun h => ?_) (fun h => ?_) <;> simp only [decide_eq_true_eq, decide_eq_false_iff_not] at h
  · have hi : i < n := by simpa using h
    have w1 : IntKind.i64.wrap (k + 2 * (i : Int) + 1) = k + 2 * i + 1 := wrapI64 (by omega) (by omega)
    have w2 : IntKind.i64.wrap (k + 2 * (i : Int) + 1 + 1) = k + 2 * i + 1 + 1 := wrapI64 (by omega) (by omega)
    have hw := wrapNat (i := i) (by omega)
    have hg := marksF_get n k i (by simpa using hi)
    simp -dsimp -implicitDefEqProofs [hi, w1, w2, hw, hg]
    exact .mk (i + 1) (by omega) (by omega) (Sub.keep (by simp) (by simp [hsub]) (by simp [w2, hw]; omega))
  · have hi : i = n := by simp at h; omega
    subst hi
    simp -dsimp -implicitDefEqProofs

noncomputable def sp_markPat : List (Option (List AV)) → List AV → Option (AV × List (Option (List AV))) := pv (pf (ι := (Int) × (Int) × (Int) × (List Fr) × (Int) × (Cp)) (α := AV × List (Option (List AV))) (fun ⟨a, b, c, ps, k, t⟩ => kOk k ∧ ps.length ≤ 1048576) (fun i => .agg (((fun ⟨a, b, c, ps, k, t⟩ => [some (flatA (frsA ps))] : (Int) × (Int) × (Int) × (List Fr) × (Int) × (Cp) → List (Option (List AV))) i).map enO) :: (fun ⟨a, b, c, ps, k, t⟩ => [.agg [.int .i64 a, .int .u32 b, .int .u32 c, .ref 0 2 0 ps.length t], .int .i64 k] : (Int) × (Int) × (Int) × (List Fr) × (Int) × (Cp) → List AV) i) (fun ⟨a, b, c, ps, k, t⟩ => (.int .i64 (k + 2 * ps.length), [some (flatA (frsA (marksF ps.length k)))])))
theorem sp_markPat_eq (a b c : Int) (ps : List Fr) (k : Int) (t : Cp) (h : kOk k ∧ ps.length ≤ 1048576) : sp_markPat [some (flatA (frsA ps))] [.agg [.int .i64 a, .int .u32 b, .int .u32 c, .ref 0 2 0 ps.length t], .int .i64 k] = some (.int .i64 (k + 2 * ps.length), [some (flatA (frsA (marksF ps.length k)))]) := by
  unfold sp_markPat pv
  exact pf_eq (ι := (Int) × (Int) × (Int) × (List Fr) × (Int) × (Cp)) (α := AV × List (Option (List AV))) (a, b, c, ps, k, t) h (by rintro ⟨a', b', c', ps', k', t'⟩ _ e; simp_all [enO, Int.natCast_inj])
theorem v_laws_markPattern : QV PP 19 sp_markPat := by
  refine QV_pf fun i h => ?_
  obtain ⟨a, b, c, ps, k, t⟩ := i
  replace h : kOk k ∧ ps.length ≤ 1048576 := h
  refine H_code (Quiet.e1 e_laws_markFractionS Quiet.nil) hmix k_laws_markPattern rfl (fun b => b) (by simp [AHeap.n]) (fun _ _ => rfl) (by rfl) (by first | rfl | simp) ?_
  show wpc _ PP _ c_laws_markPattern (initSt [.agg [.int .i64 a, .int .u32 b, .int .u32 c, .ref 0 2 0 ps.length t], .int .i64 k] ⟨[some (flatA (frsA ps))]⟩) (endH (fun b => b) r_laws_markPattern (.int .i64 (k + 2 * ps.length)) [some (flatA (frsA (marksF ps.length k)))])
  simp -dsimp -implicitDefEqProofs [c_laws_markPattern, r_laws_markPattern, sp_markFr_eq ps k t h, hsub]
noncomputable def sp_markPat0 : List AV → Option (AV) := pf (ι := (Int) × (Int) × (Int) × (Int)) (α := AV) (fun ⟨a, b, c, k⟩ => True) (fun ⟨a, b, c, k⟩ => [.agg [.int .i64 a, .int .u32 b, .int .u32 c, .sl [] false], .int .i64 k]) (fun ⟨a, b, c, k⟩ => .int .i64 k)
theorem sp_markPat0_eq (a b c k : Int) : sp_markPat0 [.agg [.int .i64 a, .int .u32 b, .int .u32 c, .sl [] false], .int .i64 k] = some (.int .i64 k) := by
  unfold sp_markPat0
  exact pf_eq (ι := (Int) × (Int) × (Int) × (Int)) (α := AV) (a, b, c, k) trivial (by rintro ⟨a', b', c', k'⟩ _ e; simp_all [Int.natCast_inj])
attribute [simp] sp_markPat0_eq
theorem q_laws_markPattern : QP PP 19 sp_markPat0 := by
  refine QP_pf (fun i h => ?_) fun i h => ?_
  · obtain ⟨a, b, c, k⟩ := i; exact ⟨by first | rfl | simp, by first | rfl | simp⟩
  obtain ⟨a, b, c, k⟩ := i
  replace h : True := h
  refine P_code (Quiet.e1 e_laws_markFractionS Quiet.nil) hmix k_laws_markPattern rfl ?_ ?_
  · first | rfl | simp
  show wpc 0 PP _ c_laws_markPattern (initSt [.agg [.int .i64 a, .int .u32 b, .int .u32 c, .sl [] false], .int .i64 k] .nil) (endP r_laws_markPattern (.int .i64 k))
  simp -dsimp -implicitDefEqProofs [c_laws_markPattern, r_laws_markPattern]
theorem e_laws_markPattern : QE PP 19 (refE (spV sp_markPat) (spR sp_markPat0)) := QE.ref v_laws_markPattern.toE q_laws_markPattern.toR
noncomputable def sp_heldPat : List AV → Option (AV) := pf (ι := (Int) × (Int) × (Int) × (Nat) × (Int)) (α := AV) (fun ⟨a, b, c, n, k⟩ => kOk k ∧ n ≤ 1048576) (fun ⟨a, b, c, n, k⟩ => [.agg [.int .i64 a, .int .u32 b, .int .u32 c, .sl (frsA (marksF n k)) false], .int .i64 k]) (fun ⟨a, b, c, n, k⟩ => .int .i64 (k + 2 * n))
theorem sp_heldPat_eq (a b c : Int) (n : Nat) (k : Int) (h : kOk k ∧ n ≤ 1048576) : sp_heldPat [.agg [.int .i64 a, .int .u32 b, .int .u32 c, .sl (frsA (marksF n k)) false], .int .i64 k] = some (.int .i64 (k + 2 * n)) := by
  unfold sp_heldPat
  exact pf_eq (ι := (Int) × (Int) × (Int) × (Nat) × (Int)) (α := AV) (a, b, c, n, k) h (by rintro ⟨a', b', c', n', k'⟩ _ e; simp_all [Int.natCast_inj])
theorem q_laws_heldPattern : QP PP 20 sp_heldPat := by
  refine QP_pf (fun i h => ?_) fun i h => ?_
  · obtain ⟨a, b, c, n, k⟩ := i; exact ⟨by first | rfl | simp, by first | rfl | simp⟩
  obtain ⟨a, b, c, n, k⟩ := i
  replace h : kOk k ∧ n ≤ 1048576 := h
  refine P_code (Quiet.q1 q_laws_heldFractionS Quiet.nil) hmix k_laws_heldPattern rfl ?_ ?_
  · first | rfl | simp
  show wpc 0 PP _ c_laws_heldPattern (initSt [.agg [.int .i64 a, .int .u32 b, .int .u32 c, .sl (frsA (marksF n k)) false], .int .i64 k] .nil) (endP r_laws_heldPattern (.int .i64 (k + 2 * n)))
  have hn : ¬ (k + 2 * (n : Int) < 0) := by unfold kOk at h; omega
  simp -dsimp -implicitDefEqProofs [c_laws_heldPattern, r_laws_heldPattern, sp_heldFr_eq n k h, hn]
end Go.Proofs.YtkgodhdpcomjbaaAi
end

section
/- Contracts: the pattern of opposite graphs. -/
namespace Go.Proofs.YtkgodhdpcomjbaaAi
open Go Go.RowKit
set_option linter.unusedVariables false
set_option linter.unusedSimpArgs false
set_option maxRecDepth 20000

def oppR (n e l : Int) (ps : List Fr) : AV × List (Option (List AV)) :=
  if patOk n e l ps = true then (.tup [.agg [.int .i64 n, .int .u32 (notE e n), .int .u32 (2 ^ n.toNat - 1 - l), .ref 0 2 0 ps.length .full], .int .i64 0], [some (flatA (frsA ps))])
  else (noPat 1, [])
theorem xor_ones {w l : Nat} (h : l < 2 ^ w) : (2 ^ w - 1) ^^^ l = 2 ^ w - 1 - l := by
  have h1 : (BitVec.allOnes w ^^^ BitVec.ofNat w l).toNat = (~~~(BitVec.ofNat w l)).toNat := by rw [BitVec.not_def]
  rw [BitVec.toNat_xor, BitVec.toNat_allOnes, BitVec.toNat_not, BitVec.toNat_ofNat, Nat.mod_eq_of_lt h] at h1
  exact h1
theorem not32 {l : Int} (h0 : 0 ≤ l) (h : l ≤ 4294967295) : IntKind.u32.wrap (((if IntKind.u32.signed = true then -1 else IntKind.u32.max) % 2 ^ IntKind.u32.bits).toNat ^^^ (l % 2 ^ IntKind.u32.bits).toNat : Nat) = 4294967295 - l := by
  obtain ⟨m, rfl⟩ := Int.eq_ofNat_of_zero_le h0
  have e : ((if IntKind.u32.signed = true then -1 else IntKind.u32.max) % 2 ^ IntKind.u32.bits).toNat ^^^ ((m : Int) % 2 ^ IntKind.u32.bits).toNat = (2 ^ 32 - 1) ^^^ m := by
    have e2 : ((m : Int) % 2 ^ IntKind.u32.bits).toNat = m := by
      rw [Int.emod_eq_of_lt (by omega) (by simp only [IntKind.bits]; omega)]
      simp
    rw [e2]
    rfl
  rw [e, xor_ones (by omega)]
  exact (wrap32 (by omega) (by omega)).trans (by omega)
theorem mask32 {l c : Int} {w : Nat} (hw : w ≤ 4) (hc : c = 2 ^ w - 1) (h0 : 0 ≤ l) (h : l < 2 ^ w) : IntKind.u32.wrap (((4294967295 - l) % 2 ^ IntKind.u32.bits).toNat &&& (c % 2 ^ IntKind.u32.bits).toNat : Nat) = 2 ^ w - 1 - l := by
  obtain ⟨m, rfl⟩ := Int.eq_ofNat_of_zero_le h0
  subst hc
  have h5 : w = 0 ∨ w = 1 ∨ w = 2 ∨ w = 3 ∨ w = 4 := by omega
  have e : ((4294967295 - (m : Int)) % 2 ^ IntKind.u32.bits).toNat = 4294967295 - m := by
    have : m < 16 := by rcases h5 with rfl | rfl | rfl | rfl | rfl <;> omega
    rw [Int.emod_eq_of_lt (by omega) (by simp only [IntKind.bits]; omega)]
    omega
  rw [e]
  have key : ∀ w : Nat, w ≤ 4 → ∀ m : Nat, m < 2 ^ w → (4294967295 - m) &&& (2 ^ w - 1) = 2 ^ w - 1 - m := by decide
  have hk := key w hw m (by have : ((2 ^ w : Nat) : Int) = 2 ^ w := by simp
                            omega)
  have e2 : (((2 : Int) ^ w - 1) % 2 ^ IntKind.u32.bits).toNat = 2 ^ w - 1 := by rcases h5 with rfl | rfl | rfl | rfl | rfl <;> rfl
  rw [e2, hk]
  rcases h5 with rfl | rfl | rfl | rfl | rfl <;> exact (wrap32 (by omega) (by omega)).trans (by omega)
theorem xorL {l c : Int} {w : Nat} (hw : w ≤ 4) (hc : c = 2 ^ w - 1) (h0 : 0 ≤ l) (h : l < 2 ^ w) : IntKind.u32.wrap ((c % 2 ^ IntKind.u32.bits).toNat ^^^ (l % 2 ^ IntKind.u32.bits).toNat : Nat) = 2 ^ w - 1 - l := by
  obtain ⟨m, rfl⟩ := Int.eq_ofNat_of_zero_le h0
  subst hc
  have h5 : w = 0 ∨ w = 1 ∨ w = 2 ∨ w = 3 ∨ w = 4 := by omega
  have hm : m < 2 ^ w := by have : ((2 ^ w : Nat) : Int) = 2 ^ w := by simp
                            omega
  have e : ((m : Int) % 2 ^ IntKind.u32.bits).toNat = m := by
    have : m < 16 := by rcases h5 with rfl | rfl | rfl | rfl | rfl <;> omega
    rw [Int.emod_eq_of_lt (by omega) (by simp only [IntKind.bits]; omega)]
    simp
  have e2 : (((2 : Int) ^ w - 1) % 2 ^ IntKind.u32.bits).toNat = 2 ^ w - 1 := by rcases h5 with rfl | rfl | rfl | rfl | rfl <;> rfl
  rw [e, e2, xor_ones hm]
  rcases h5 with rfl | rfl | rfl | rfl | rfl <;> exact (wrap32 (by omega) (by omega)).trans (by omega)
theorem patOk_spec {n e l : Int} {ps : List Fr} (h : patOk n e l ps = true) : graphOk n e = true ∧ (1 ≤ n ∧ n ≤ 4) ∧ l < 2 ^ n.toNat ∧ (ps.length : Int) = n ∧ allOk ps = true := by
  simp only [patOk, Bool.and_eq_true, decide_eq_true_eq] at h
  obtain ⟨⟨⟨⟨⟨h1, h2⟩, h3⟩, h4⟩, _⟩, _⟩ := h
  obtain ⟨h5, h6⟩ := of_decide_eq_true h2
  exact ⟨h1, h5, h6, h3, h4⟩
noncomputable def sp_oppP : List AV → Option (AV × List (Option (List AV))) := pf (ι := (Int) × (Int) × (Int) × (List Fr)) (α := AV × List (Option (List AV))) (fun ⟨n, e, l, ps⟩ => (0 ≤ e ∧ e ≤ 4294967295) ∧ (0 ≤ l ∧ l ≤ 4294967295) ∧ ps.length ≤ maxLen) (fun ⟨n, e, l, ps⟩ => [.agg [.int .i64 n, .int .u32 e, .int .u32 l, .sl (frsA ps) false]]) (fun ⟨n, e, l, ps⟩ => oppR n e l ps)
theorem sp_oppP_eq (n e l : Int) (ps : List Fr) (h : (0 ≤ e ∧ e ≤ 4294967295) ∧ (0 ≤ l ∧ l ≤ 4294967295) ∧ ps.length ≤ maxLen) : sp_oppP [.agg [.int .i64 n, .int .u32 e, .int .u32 l, .sl (frsA ps) false]] = some (oppR n e l ps) := by
  unfold sp_oppP
  exact pf_eq (ι := (Int) × (Int) × (Int) × (List Fr)) (α := AV × List (Option (List AV))) (n, e, l, ps) h (by rintro ⟨n', e', l', ps'⟩ _ e; simp_all [Int.natCast_inj])
theorem n_impl_OppositePattern : QN PP 17 sp_oppP := by
  refine QN_pf (fun i h => ?_) fun i h => ?_
  · obtain ⟨n, e, l, ps⟩ := i; first | rfl | simp
  obtain ⟨n, e, l, ps⟩ := i
  replace h : (0 ≤ e ∧ e ≤ 4294967295) ∧ (0 ≤ l ∧ l ≤ 4294967295) ∧ ps.length ≤ maxLen := h
  show T PP 17 [.agg [.int .i64 n, .int .u32 e, .int .u32 l, .sl (frsA ps) false]] .nil fun r' A' => r' = ((oppR n e l ps : AV × List (Option (List AV)))).1 ∧ A' = ⟨((oppR n e l ps : AV × List (Option (List AV)))).2⟩
  cases hv : patOk n e l ps with
  | false =>
    rw [show oppR n e l ps = (noPat 1, []) by simp [oppR, hv]]
    refine H_code (Quiet.q1 q_impl_ValidPattern (Quiet.q1 q_impl_Graph_opposite (Quiet.e1 n_slices_Clone_Simpl_Fraction_impl_Fraction.toE Quiet.nil))) hmix k_impl_OppositePattern rfl (fun _ => 0) (by simp [AHeap.n, AHeap.nil]) (by intro b hb; simp [AHeap.n, AHeap.nil] at hb <;> subst hb <;> rfl) (by rfl) (by first | rfl | simp) ?_
    simp -dsimp -implicitDefEqProofs [c_impl_OppositePattern, r_impl_OppositePattern, sp_patOk_eq n e l ps h, hv, hsub, noPat]
  | true =>
    obtain ⟨hg, hn, hl, hp, ha⟩ := patOk_spec hv
    have hne : ps ≠ [] := fun e => by subst e; simp at hp; omega
    rw [show oppR n e l ps = (.tup [.agg [.int .i64 n, .int .u32 (notE e n), .int .u32 (2 ^ n.toNat - 1 - l), .ref 0 2 0 ps.length .full], .int .i64 0], [some (flatA (frsA ps))]) by simp [oppR, hv]]
    refine H_code (Quiet.q1 q_impl_ValidPattern (Quiet.q1 q_impl_Graph_opposite (Quiet.e1 n_slices_Clone_Simpl_Fraction_impl_Fraction.toE Quiet.nil))) hmix k_impl_OppositePattern rfl (fun _ => 2) (by simp [AHeap.n, AHeap.nil]) (by intro b hb; simp [AHeap.n, AHeap.nil] at hb <;> subst hb <;> rfl) (by rfl) (by first | rfl | simp) ?_
    have hcl := sp_cloneFr_eq ps ⟨hne, by omega⟩
    have h5 : n = 1 ∨ n = 2 ∨ n = 3 ∨ n = 4 := by omega
    have hnot := not32 h.2.1.1 h.2.1.2
    have hmask := fun (c : Int) (hc : c = 2 ^ n.toNat - 1) => mask32 (l := l) (c := c) (w := n.toNat) (by omega) hc h.2.1.1 hl
    have hs : ∀ k : Nat, k ≤ 4 → IntKind.u32.wrap (IntKind.u32.wrap (2 ^ min k IntKind.u32.bits) - 1) = 2 ^ k - 1 := by decide
    have hn0 : ¬ n < 0 := by omega
    have hk := hs n.toNat (by omega)
    simp -dsimp -implicitDefEqProofs [c_impl_OppositePattern, r_impl_OppositePattern, sp_patOk_eq n e l ps h, hv, hsub, hcl, sp_opp_eq n e ⟨⟨by omega, by omega⟩, h.1⟩, hnot, hn0, hk, hmask]
theorem n_spec_OppositePattern : QN PP 15 sp_oppP := by
  refine QN_pf (fun i h => ?_) fun i h => ?_
  · obtain ⟨n, e, l, ps⟩ := i; first | rfl | simp
  obtain ⟨n, e, l, ps⟩ := i
  replace h : (0 ≤ e ∧ e ≤ 4294967295) ∧ (0 ≤ l ∧ l ≤ 4294967295) ∧ ps.length ≤ maxLen := h
  show T PP 15 [.agg [.int .i64 n, .int .u32 e, .int .u32 l, .sl (frsA ps) false]] .nil fun r' A' => r' = ((oppR n e l ps : AV × List (Option (List AV)))).1 ∧ A' = ⟨((oppR n e l ps : AV × List (Option (List AV)))).2⟩
  cases hv : patOk n e l ps with
  | false =>
    rw [show oppR n e l ps = (noPat 1, []) by simp [oppR, hv]]
    refine H_code (Quiet.q1 q_spec_OppositeGraph (Quiet.e1 m_spec_l07Ok.toE (Quiet.e1 b_spec_l07Copy.toE Quiet.nil))) hmix k_spec_OppositePattern rfl (fun _ => 0) (by simp [AHeap.n, AHeap.nil]) (by intro b hb; simp [AHeap.n, AHeap.nil] at hb <;> subst hb <;> rfl) (by rfl) (by first | rfl | simp) ?_
    simp -dsimp -implicitDefEqProofs [c_spec_OppositePattern, r_spec_OppositePattern, sp_l07Ok_eq n e l ps h, hv, hsub, noPat]
  | true =>
    obtain ⟨hg, hn, hl, hp, ha⟩ := patOk_spec hv
    have hne : ps ≠ [] := fun e => by subst e; simp at hp; omega
    rw [show oppR n e l ps = (.tup [.agg [.int .i64 n, .int .u32 (notE e n), .int .u32 (2 ^ n.toNat - 1 - l), .ref 0 2 0 ps.length .full], .int .i64 0], [some (flatA (frsA ps))]) by simp [oppR, hv]]
    refine H_code (Quiet.q1 q_spec_OppositeGraph (Quiet.e1 m_spec_l07Ok.toE (Quiet.e1 b_spec_l07Copy.toE Quiet.nil))) hmix k_spec_OppositePattern rfl (fun _ => 2) (by simp [AHeap.n, AHeap.nil]) (by intro b hb; simp [AHeap.n, AHeap.nil] at hb <;> subst hb <;> rfl) (by rfl) (by first | rfl | simp) ?_
    have hcp := sp_l07Copy_eq n e l ps ⟨hne, by omega⟩
    have hx := fun (c : Int) (hc : c = 2 ^ n.toNat - 1) => xorL (l := l) (c := c) (w := n.toNat) (by omega) hc h.2.1.1 hl
    have hn0 : ¬ n < 0 := by omega
    have hu : IntKind.u64.wrap n = n := wrapU64 (by omega) (by omega)
    have hs : ∀ k : Nat, k ≤ 4 → IntKind.i64.wrap (IntKind.i64.wrap (2 ^ min k IntKind.i64.bits) - 1) = 2 ^ k - 1 ∧ IntKind.u32.wrap (2 ^ k - 1) = 2 ^ k - 1 := by decide
    obtain ⟨hk, hk2⟩ := hs n.toNat (by omega)
    simp -dsimp -implicitDefEqProofs [c_spec_OppositePattern, r_spec_OppositePattern, sp_l07Ok_eq n e l ps h, hv, hsub, hcp, sp_oppG_eq n e h.1, oppG, hg, hn0, hx, hu, hk, hk2]
end Go.Proofs.YtkgodhdpcomjbaaAi
end

section
/- Contracts: lists of numbers; graphs with so many vertices in each part. -/
namespace Go.Proofs.YtkgodhdpcomjbaaAi
open Go Go.RowKit
set_option linter.unusedVariables false
set_option linter.unusedSimpArgs false
set_option maxRecDepth 20000

/-! ### searching in lists -/
def idxF {α : Type} (f : α → Bool) : List α → Nat → Int
  | [], _ => -1
  | x :: r, i => if f x = true then i else idxF f r (i + 1)
theorem idxF_ge {α : Type} (f : α → Bool) : ∀ (l : List α) (i : Nat), decide (0 ≤ idxF f l i) = l.any f
  | [], _ => rfl
  | x :: r, i => by
    rw [idxF, List.any_cons]
    cases hx : f x with
    | true => simp
    | false => simp only [Bool.false_eq_true, if_false, Bool.false_or]; exact idxF_ge f r (i + 1)
theorem hsub_all {os : List (Option (List AV))} (ho : ClosedH os) : hsub (fun b => b) os.length ⟨os⟩ 0 os := by
  have := hsub_pre (r := []) (m := os.length) ho (Nat.le_refl _)
  simpa using this
theorem Sub.pre0 {os : List (Option (List AV))} {t : Nat → AV} {l : List (Nat × AV)} (ho : ClosedH os) (ht : ∀ p ∈ l, p.2.lt os.length = true ∧ t p.1 = p.2) : Sub os.length ⟨t, ⟨os⟩⟩ ⟨tl l, ⟨os⟩⟩ := Sub.keep (Nat.le_refl _) (hsub_all ho) ht
theorem T_indexI {g : FuncId} {caps : List AV} {os : List (Option (List AV))} (f : Int → Bool) (l : List Int) (hl : l.length ≤ maxLen) (ho : ClosedH os) (hc : ltL os.length caps = true)
    (hf : ∀ x ∈ l, T PP g ([.int .i64 x] ++ caps) ⟨os⟩ fun r A' => r = .bool (f x) ∧ A' = ⟨os⟩) :
    T PP 143 [.sl (insA l) false, .fn g caps] ⟨os⟩ fun r A' => r = .int .i64 (idxF f l 0) ∧ A' = ⟨os⟩ := by
  refine H_code Quiet.nil hmix k_slices_IndexFunc_Sint64_int64 rfl (fun b => b) (Nat.le_refl _) (fun _ _ => rfl) (injB_id _) (by rfl) ?_
  show wpc os.length PP _ c_slices_IndexFunc_Sint64_int64 (initSt [.sl (insA l) false, .fn g caps] ⟨os⟩) _
  simp only [maxLen] at hl
  simp -dsimp -implicitDefEqProofs [c_slices_IndexFunc_Sint64_int64, r_slices_IndexFunc_Sint64_int64]
  refine wpLoop_st (fun (i : Nat) => ⟨tl [(0, .sl (insA l) false), (1, .fn g caps), (7, .int .i64 l.length), (8, .int .i64 i)], ⟨os⟩⟩) (fun i => i ≤ l.length ∧ idxF f (l.drop i) i = idxF f l 0) (fun i => l.length - i) 0 ⟨by omega, rfl⟩ (Sub.pre0 ho (by simp [hc])) ?_
  rintro i ⟨hi, hx⟩
  simp -dsimp -implicitDefEqProofs
  refine brW_of (fun h => ?_) (fun h => ?_) <;> simp only [decide_eq_true_eq, decide_eq_false_iff_not] at h
  · have hi' : i < l.length := by omega
    have hw := wrapNat (i := i) (by omega)
    simp -dsimp -implicitDefEqProofs [hi', hw]
    refine (hf l[i] (List.getElem_mem hi')).mono ?_
    rintro r A' ⟨rfl, rfl⟩
    rw [drop_cons hi', idxF] at hx
    cases hv : f l[i] with
    | false =>
      simp only [hv, Bool.false_eq_true, if_false] at hx
      simp -dsimp -implicitDefEqProofs [hw]
      exact .mk (i + 1) ⟨by omega, hx⟩ (by omega) (Sub.pre0 ho (by simp [hw, hc]))
    | true =>
      simp only [hv, if_true] at hx
      simp -dsimp -implicitDefEqProofs [← hx, hsub_all ho]
  · have : i = l.length := by omega
    subst this
    simp [idxF] at hx
    simp -dsimp -implicitDefEqProofs [← hx, hsub_all ho]
noncomputable def yesI (sp : List AV → AHeap → Option (AV × AHeap)) (caps : List AV) (A : AHeap) (x : Int) : Bool := yesOf sp ([.int .i64 x] ++ caps) A
open Classical in
noncomputable def spIdxI (g : FuncId) (sp : List AV → AHeap → Option (AV × AHeap)) : List AV → AHeap → Option (AV × AHeap)
  | [.sl xs false, .fn g' caps], A => if h : g' = g ∧ ∃ l : List Int, xs = insA l ∧ l.length ≤ maxLen ∧ ∀ x ∈ l, sp ([.int .i64 x] ++ caps) A = some (.bool (yesI sp caps A x), A)
      then some (.int .i64 (idxF (yesI sp caps A) h.2.choose 0), A) else none
  | _, _ => none
theorem spIdxI_eq {g : FuncId} {sp : List AV → AHeap → Option (AV × AHeap)} (f : Int → Bool) {l : List Int} {caps : List AV} {A : AHeap} (hl : l.length ≤ maxLen) (h : ∀ x ∈ l, sp ([.int .i64 x] ++ caps) A = some (.bool (f x), A)) :
    spIdxI g sp [.sl (insA l) false, .fn g caps] A = some (.int .i64 (idxF f l 0), A) := by
  have hy : ∀ x ∈ l, yesI sp caps A x = f x := by
    intro x hx
    unfold yesI yesOf
    rw [h x hx]
  have hc : g = g ∧ ∃ k : List Int, insA l = insA k ∧ k.length ≤ maxLen ∧ ∀ x ∈ k, sp ([.int .i64 x] ++ caps) A = some (.bool (yesI sp caps A x), A) := ⟨rfl, l, rfl, hl, fun x hx => by rw [hy x hx]; exact h x hx⟩
  unfold spIdxI
  dsimp only
  rw [dif_pos hc]
  have e : hc.2.choose = l := (insA_inj.1 hc.2.choose_spec.1).symm
  rw [e]
  have : ∀ (l : List Int) (i : Nat), (∀ x ∈ l, yesI sp caps A x = f x) → idxF (yesI sp caps A) l i = idxF f l i := by
    intro l
    induction l with
    | nil => intro _ _; rfl
    | cons x l ih => intro i h; rw [idxF, idxF, h x (List.mem_cons_self ..), ih _ fun y hy => h y (List.mem_cons_of_mem _ hy)]
  rw [this l 0 hy]
theorem QE_idxI {g : FuncId} {sp : List AV → AHeap → Option (AV × AHeap)} (hg : QE PP g sp) : QE PP 143 (spIdxI g sp) := by
  intro args A r A1 e
  unfold spIdxI at e
  split at e
  · rename_i xs g' caps
    split at e
    · rename_i hc
      obtain ⟨rfl, hx⟩ := hc
      injection e with e
      injection e with e1 e2
      subst e1; subst e2
      obtain ⟨h1, h2, h3⟩ := hx.choose_spec
      generalize hx.choose = l at h1 h2 h3
      subst h1
      refine T.of_closed (T_indexI (g := g') (caps := []) (os := []) (fun _ => true) [] (by simp) ClosedH.nil rfl (fun x hx => (by cases hx))).1 fun ho hl => ?_
      exact T_indexI (os := A.l) _ l h2 ho (by simpa [ltL, AV.lt] using hl) fun x hx => hg _ _ _ _ (h3 x hx)
    · cases e
  · cases e
theorem T_anyI {g : FuncId} {sp : List AV → AHeap → Option (AV × AHeap)} (hg : QE PP g sp) {caps : List AV} {os : List (Option (List AV))} (f : Int → Bool) (l : List Int) (hl : l.length ≤ maxLen) (ho : ClosedH os) (hc : ltL os.length caps = true) (hcl : looseL caps = caps)
    (hf : ∀ x ∈ l, sp ([.int .i64 x] ++ caps) ⟨os⟩ = some (.bool (f x), ⟨os⟩)) :
    T PP 76 [.sl (insA l) false, .fn g caps] ⟨os⟩ fun r A' => r = .bool (l.any f) ∧ A' = ⟨os⟩ := by
  refine H_code (Quiet.e1 (QE_idxI hg) Quiet.nil) hmix k_slices_ContainsFunc_Sint64_int64 rfl (fun b => b) (Nat.le_refl _) (fun _ _ => rfl) (injB_id _) (by rfl) ?_
  show wpc os.length PP _ c_slices_ContainsFunc_Sint64_int64 (initSt [.sl (insA l) false, .fn g caps] ⟨os⟩) _
  simp -dsimp -implicitDefEqProofs [c_slices_ContainsFunc_Sint64_int64, r_slices_ContainsFunc_Sint64_int64, hcl, spIdxI_eq f hl hf, hsub_all ho, ← idxF_ge f l 0]
open Classical in
noncomputable def spAnyI (g : FuncId) (sp : List AV → AHeap → Option (AV × AHeap)) : List AV → AHeap → Option (AV × AHeap)
  | [.sl xs false, .fn g' caps], A => if h : g' = g ∧ looseL caps = caps ∧ ∃ l : List Int, xs = insA l ∧ l.length ≤ maxLen ∧ ∀ x ∈ l, sp ([.int .i64 x] ++ caps) A = some (.bool (yesI sp caps A x), A)
      then some (.bool (h.2.2.choose.any (yesI sp caps A)), A) else none
  | _, _ => none
theorem spAnyI_eq {g : FuncId} {sp : List AV → AHeap → Option (AV × AHeap)} (f : Int → Bool) {l : List Int} {caps : List AV} {A : AHeap} (hl : l.length ≤ maxLen) (hcl : looseL caps = caps) (h : ∀ x ∈ l, sp ([.int .i64 x] ++ caps) A = some (.bool (f x), A)) :
    spAnyI g sp [.sl (insA l) false, .fn g caps] A = some (.bool (l.any f), A) := by
  have hy : ∀ x ∈ l, yesI sp caps A x = f x := by
    intro x hx
    unfold yesI yesOf
    rw [h x hx]
  have hc : g = g ∧ looseL caps = caps ∧ ∃ k : List Int, insA l = insA k ∧ k.length ≤ maxLen ∧ ∀ x ∈ k, sp ([.int .i64 x] ++ caps) A = some (.bool (yesI sp caps A x), A) := ⟨rfl, hcl, l, rfl, hl, fun x hx => by rw [hy x hx]; exact h x hx⟩
  unfold spAnyI
  dsimp only
  rw [dif_pos hc]
  have e : hc.2.2.choose = l := (insA_inj.1 hc.2.2.choose_spec.1).symm
  rw [e]
  have : l.any (yesI sp caps A) = l.any f := by
    clear e hc h hl
    induction l with
    | nil => rfl
    | cons x l ih => rw [List.any_cons, List.any_cons, hy x (List.mem_cons_self ..), ih fun y hm => hy y (List.mem_cons_of_mem _ hm)]
  rw [this]
theorem QE_anyI {g : FuncId} {sp : List AV → AHeap → Option (AV × AHeap)} (hg : QE PP g sp) : QE PP 76 (spAnyI g sp) := by
  intro args A r A1 e
  unfold spAnyI at e
  split at e
  · rename_i xs g' caps
    split at e
    · rename_i hc
      obtain ⟨rfl, hcl, hx⟩ := hc
      injection e with e
      injection e with e1 e2
      subst e1; subst e2
      obtain ⟨h1, h2, h3⟩ := hx.choose_spec
      generalize hx.choose = l at h1 h2 h3
      subst h1
      refine T.of_closed (T_anyI hg (caps := []) (os := []) (fun _ => true) [] (by simp) ClosedH.nil rfl rfl (fun x hx => (by cases hx))).1 fun ho hl => ?_
      exact T_anyI hg (os := A.l) _ l h2 ho (by simpa [ltL, AV.lt] using hl) hcl h3
    · cases e
  · cases e

end Go.Proofs.YtkgodhdpcomjbaaAi
end
