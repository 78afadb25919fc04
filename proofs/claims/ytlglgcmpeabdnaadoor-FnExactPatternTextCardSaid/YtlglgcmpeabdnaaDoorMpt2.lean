/- Contracts, joined. -/
import Derived.Test.YtlglgcmpeabdnaaDoorMpt1
import Derived.Test.YtlglgcmpeabdnaaDoorAiX
import Derived.Test.YtlglgcmpeabdnaaDoorProg
import Derived.Test.YtlglgcmpeabdnaaDoorShelfA
import Derived.Test.YtlglgcmpeabdnaaDoorShelfB
section
/- Cells of lists of data. -/
namespace Go.Proofs.YtlglgcmpeabdnaaDoorAi
open Go Go.RowKit
set_option linter.unusedVariables false
set_option linter.unusedSimpArgs false
set_option linter.unusedSectionVars false

/-- Data that take so many plain cells. -/
class Plain {α : Type} (f : α → AV) (e : outParam Nat) : Prop where
  len : ∀ x, (f x).cells.length = e
  pos : 0 < e
  low : ∀ x, ltL 0 (f x).cells = true
  flat : ∀ x, flatL (f x).cells = true
  loose : ∀ x, looseL (f x).cells = (f x).cells
  elem : ∀ x r, elemA e ((f x).cells ++ r) = f x
instance : Plain frA 2 := ⟨fun _ => rfl, by omega, fun _ => rfl, fun _ => rfl, fun _ => rfl, fun _ _ => rfl⟩
instance : Plain grA 2 := ⟨fun _ => rfl, by omega, fun _ => rfl, fun _ => rfl, fun _ => rfl, fun _ _ => rfl⟩
instance : Plain flA 3 := ⟨fun _ => rfl, by omega, fun _ => rfl, fun _ => rfl, fun _ => rfl, fun _ _ => rfl⟩
instance : Plain inA 1 := ⟨fun _ => rfl, by omega, fun _ => rfl, fun _ => rfl, fun _ => rfl, fun _ _ => rfl⟩

def flatA (xs : List AV) : List AV := xs.flatMap AV.cells
section
variable {α : Type} {f : α → AV} {e : Nat} [hP : Plain f e]
include hP
theorem flatA_mem (l : List α) : ∀ x ∈ mapA f l, x.cells.length = e := by
  intro x hx
  obtain ⟨a, _, rfl⟩ := List.mem_map.1 hx
  exact hP.len a
@[simp] theorem flatA_len (l : List α) : (flatA (mapA f l)).length = l.length * e := by
  unfold flatA
  rw [flatMap_len e _ (flatA_mem l), mapA_length]
theorem flatA_at (l : List α) (k : Nat) : (flatA (mapA f l))[k]? = (l[k / e]?).bind fun x => (f x).cells[k % e]? := by
  unfold flatA
  rw [flatMap_get e _ k (flatA_mem l) hP.pos, mapA_get]
  cases l[k / e]? <;> rfl
theorem flatA_get (l : List α) (i j : Nat) (hj : j < e) : (flatA (mapA f l))[i * e + j]? = (l[i]?).bind fun x => (f x).cells[j]? := by
  rw [flatA_at, Nat.mul_comm, Nat.mul_add_div hP.pos, Nat.div_eq_of_lt hj, Nat.add_zero, Nat.mul_add_mod, Nat.mod_eq_of_lt hj]
omit hP in
theorem flatA_append (l k : List α) : flatA (mapA f (l ++ k)) = flatA (mapA f l) ++ flatA (mapA f k) := by simp [flatA, mapA]
omit hP in
@[simp] theorem flatA_nil : flatA (mapA f []) = [] := rfl
omit hP in
theorem flatA_cons (x : α) (l : List α) : flatA (mapA f (x :: l)) = (f x).cells ++ flatA (mapA f l) := by simp [flatA, mapA]
theorem flatA_lt (n : Nat) : ∀ l : List α, ltL n (flatA (mapA f l)) = true
  | [] => rfl
  | x :: l => by rw [flatA_cons, ltL_append, flatA_lt n l, ltL_mono (Nat.zero_le n) _ (hP.low x)]; rfl
theorem flatA_flat : ∀ l : List α, flatL (flatA (mapA f l)) = true
  | [] => rfl
  | x :: l => by
    rw [flatA_cons]
    have : ∀ a b : List AV, flatL a = true → flatL b = true → flatL (a ++ b) = true := by
      intro a b ha hb
      induction a with
      | nil => exact hb
      | cons y a ih =>
        simp only [List.cons_append, flatL, Bool.and_eq_true] at *
        exact ⟨ha.1, ih ha.2⟩
    exact this _ _ (hP.flat x) (flatA_flat l)
theorem flatA_loose : ∀ l : List α, looseL (flatA (mapA f l)) = flatA (mapA f l)
  | [] => rfl
  | x :: l => by
    rw [flatA_cons, looseL_map, List.map_append, ← looseL_map, ← looseL_map, hP.loose, flatA_loose l]
theorem flatA_ren (g : Nat → Nat) (l : List α) : renL g (flatA (mapA f l)) = flatA (mapA f l) := renL_low _ _ (flatA_lt 0 l)
theorem flatA_gath : ∀ (l : List α) (n : Nat), n = l.length → gath e n (flatA (mapA f l)) = mapA f l
  | [], n, h => by subst h; rfl
  | x :: l, n, h => by
    subst h
    rw [List.length_cons, gath, flatA_cons, hP.elem, List.drop_left' (hP.len x), flatA_gath l _ rfl]
    rfl
omit hP in
theorem flatA_rep (n : Nat) (x : α) : (List.replicate n (f x).cells).flatten = flatA (mapA f (List.replicate n x)) := by
  induction n with
  | zero => rfl
  | succ n ih => rw [List.replicate_succ, List.flatten_cons, ih, List.replicate_succ, flatA_cons]
end
@[simp] theorem flatA_nms {α : Type} {f : α → AV} {e : Nat} [Plain f e] (l : List α) : nmsL (flatA (mapA f l)) = [] := nmsL_low _ (flatA_lt 0 l)
attribute [simp] flatA_lt flatA_flat flatA_loose flatA_ren
@[simp] theorem all_plain {α : Type} {f : α → AV} {e : Nat} [hP : Plain f e] (l : List α) : (mapA f l).all (fun x => x.cells.length == e) = true := by
  rw [List.all_eq_true]
  intro x hx
  exact beq_iff_eq.2 (flatA_mem l x hx)
@[simp] theorem fm_plain {α : Type} {f : α → AV} {e : Nat} [hP : Plain f e] (l : List α) : (mapA f l).flatMap AV.cells = flatA (mapA f l) := rfl
@[simp 2000] theorem sliceCells_plain {α : Type} {f : α → AV} {e : Nat} [hP : Plain f e] (A : AHeap) (l : List α) (t : Bool) : sliceCells A e (.sl (mapA f l) t) = some (flatA (mapA f l)) := by
  show (if ((mapA f l).all fun x => x.cells.length == e) = true then some (List.flatMap AV.cells (mapA f l)) else none) = _
  rw [if_pos (all_plain l)]
  rfl
@[simp 2000] theorem sliceA_plain {α : Type} {f : α → AV} {e : Nat} [hP : Plain f e] (l : List α) (t : Bool) (lo hi : Nat) (mx : Option Nat) : sliceA e (.sl (mapA f l) t) lo hi mx = if lo ≤ hi ∧ hi ≤ l.length ∧ maxOk hi l.length mx = true then some (.sl (mapA f ((l.take hi).drop lo)) (maxTight hi l.length t mx)) else none := by
  have h1 := all_plain (f := f) (e := e) l
  unfold sliceA
  dsimp only
  rw [mapA_length]
  by_cases c : lo ≤ hi ∧ hi ≤ l.length ∧ maxOk hi l.length mx = true
  · rw [if_pos ⟨c.1, c.2.1, c.2.2, h1⟩, if_pos c]
    simp [mapA, List.map_drop, List.map_take]
  · rw [if_neg (fun h => c ⟨h.1, h.2.1, h.2.2.1⟩), if_neg c]
@[simp] theorem gath_fr (l : List Fr) (n : Nat) (h : n = l.length) : gath 2 n (flatA (mapA frA l)) = mapA frA l := flatA_gath l n h
@[simp] theorem gath_gr (l : List Gr) (n : Nat) (h : n = l.length) : gath 2 n (flatA (mapA grA l)) = mapA grA l := flatA_gath l n h
@[simp] theorem gath_fl (l : List Fl) (n : Nat) (h : n = l.length) : gath 3 n (flatA (mapA flA l)) = mapA flA l := flatA_gath l n h
@[simp] theorem gath_in (l : List Int) (n : Nat) (h : n = l.length) : gath 1 n (flatA (mapA inA l)) = mapA inA l := flatA_gath l n h
@[simp] theorem news_fr (n : Nat) (p q : Int) : (List.replicate n [.int .i64 p, .int .i64 q]).flatten = flatA (mapA frA (List.replicate n ⟨p, q⟩)) := flatA_rep (f := frA) n ⟨p, q⟩
@[simp] theorem news_gr (n : Nat) (p q : Int) : (List.replicate n [.int .i64 p, .int .u32 q]).flatten = flatA (mapA grA (List.replicate n ⟨p, q⟩)) := flatA_rep (f := grA) n ⟨p, q⟩
@[simp] theorem news_fl (n : Nat) (m p q : Int) : (List.replicate n [.int .i64 m, .int .i64 p, .int .u32 q]).flatten = flatA (mapA flA (List.replicate n ⟨m, p, q⟩)) := flatA_rep (f := flA) n ⟨m, p, q⟩
@[simp] theorem news_in (n : Nat) (p : Int) : (List.replicate n [.int .i64 p]).flatten = flatA (mapA inA (List.replicate n p)) := flatA_rep (f := inA) n p
theorem get_fr0 (l : List Fr) (i : Nat) (h : i < l.length) : (flatA (mapA frA l))[i * 2]? = some (.int .i64 l[i].p) := by
  have := flatA_get (f := frA) l i 0 (by omega)
  rw [Nat.add_zero] at this
  rw [this]; simp [h]
theorem get_fr1 (l : List Fr) (i : Nat) (h : i < l.length) : (flatA (mapA frA l))[i * 2 + 1]? = some (.int .i64 l[i].q) := by
  rw [flatA_get (f := frA) l i 1 (by omega)]; simp [h]
/-! ### marks -/
def marksF : Nat → Int → List Fr
  | 0, _ => []
  | n + 1, k => ⟨k, k + 1⟩ :: marksF n (k + 2)
@[simp] theorem marksF_len : ∀ (n : Nat) (k : Int), (marksF n k).length = n
  | 0, _ => rfl
  | n + 1, k => by simp [marksF, marksF_len n]
@[simp] theorem marksF_inj (n n' : Nat) (k k' : Int) : marksF n k = marksF n' k' ↔ n = n' ∧ (n = 0 ∨ k = k') := by
  constructor
  · intro h
    have hn : n = n' := by have := congrArg List.length h; simpa using this
    subst hn
    refine ⟨rfl, ?_⟩
    cases n with
    | zero => exact .inl rfl
    | succ n =>
      simp only [marksF, List.cons.injEq, Fr.mk.injEq] at h
      exact .inr h.1.1
  · rintro ⟨rfl, rfl | rfl⟩ <;> rfl
end Go.Proofs.YtlglgcmpeabdnaaDoorAi
end

section
/- MADE BY PROGRAM (wip/tools/gen.py): the abstract code of functions. -/
namespace Go.Proofs.YtlglgcmpeabdnaaDoorAi
open Go AC AOp Opd
set_option linter.unusedVariables false
set_option maxRecDepth 100000
def c_impl_bit : AC := seq (reg [⟨(some 4), mv (c (.int .u32 0)), none⟩]) (seq (seq (reg [⟨(some 5), mv (t 0), none⟩, ⟨(some 6), mv (t 1), none⟩, ⟨(some 7), bin .gtr (t 5) (t 6), none⟩]) (cond (t 7) (reg [⟨(some 8), mv (t 1), none⟩, ⟨(some 9), mv (t 0), none⟩, ⟨(some 0), mv (t 8), none⟩, ⟨(some 1), mv (t 9), none⟩]) (skip))) (seq (reg [⟨(some 10), mv (t 1), none⟩, ⟨(some 11), callq (c (.fn 60 [])) [t 10], none⟩, ⟨(some 12), mv (t 0), none⟩, ⟨(some 13), bin .add (t 11) (t 12), none⟩, ⟨(some 14), bin .shl (c (.int .u32 1)) (t 13), none⟩, ⟨(some 4), mv (t 14), none⟩]) (ret)))
def r_impl_bit : List ARes := [.tmp 4]
theorem k_impl_bit : acLin Go.Proofs.Tryd.prog 68 2 (inQ [60] []) [] = some (c_impl_bit, r_impl_bit) := by kernel_rfl
end Go.Proofs.YtlglgcmpeabdnaaDoorAi
end

section
/- Contracts: products of words; cells over and over; patterns of equal parts. -/
namespace Go.Proofs.YtlglgcmpeabdnaaDoorAi
open Go Go.RowKit
set_option linter.unusedVariables false
set_option linter.unusedSimpArgs false
set_option maxRecDepth 20000

def evenL (n : Int) : List Fr := List.replicate n.toNat ⟨1, n⟩
end Go.Proofs.YtlglgcmpeabdnaaDoorAi
end

section
/- Contracts: patterns of equal weights. -/
namespace Go.Proofs.YtlglgcmpeabdnaaDoorAi
open Go Go.RowKit
set_option linter.unusedVariables false
set_option linter.unusedSimpArgs false
set_option maxRecDepth 20000

end Go.Proofs.YtlglgcmpeabdnaaDoorAi
end

section
/- Contracts: bits of edges; graphs that are made. -/
namespace Go.Proofs.YtlglgcmpeabdnaaDoorAi
open Go Go.RowKit
set_option linter.unusedVariables false
set_option linter.unusedSimpArgs false
set_option maxRecDepth 20000
variable {P : Program}

def bitI (i j : Nat) : Nat := if i < j then j * (j - 1) / 2 + i else i * (i - 1) / 2 + j
noncomputable def sp_bit : List AV → Option (AV) := pf (ι := (Int) × (Int)) (α := AV) (fun ⟨i, j⟩ => (0 ≤ i ∧ i ≤ 5) ∧ (0 ≤ j ∧ j ≤ 5)) (fun ⟨i, j⟩ => [.int .i64 i, .int .i64 j]) (fun ⟨i, j⟩ => .int .u32 (2 ^ bitI i.toNat j.toNat))
theorem sp_bit_eq (i j : Int) (h : (0 ≤ i ∧ i ≤ 5) ∧ (0 ≤ j ∧ j ≤ 5)) : sp_bit [.int .i64 i, .int .i64 j] = some (.int .u32 (2 ^ bitI i.toNat j.toNat)) := by
  unfold sp_bit
  exact pf_eq (ι := (Int) × (Int)) (α := AV) (i, j) h (by rintro ⟨i', j'⟩ _ e; simp_all [Int.natCast_inj])
theorem q_impl_bit : QP PP 68 sp_bit := by
  refine QP_pf (fun i h => ?_) fun i h => ?_
  · obtain ⟨i, j⟩ := i; exact ⟨by first | rfl | simp, by first | rfl | simp⟩
  obtain ⟨i, j⟩ := i
  replace h : (0 ≤ i ∧ i ≤ 5) ∧ (0 ≤ j ∧ j ≤ 5) := h
  refine P_code (Quiet.q1 q_impl_pairs Quiet.nil) hmix k_impl_bit rfl ?_ ?_
  · first | rfl | simp
  show wpc 0 PP _ c_impl_bit (initSt [.int .i64 i, .int .i64 j] .nil) (endP r_impl_bit (.int .u32 (2 ^ bitI i.toNat j.toNat)))
  obtain ⟨⟨i0, i1⟩, j0, j1⟩ := h
  have hj : j = 0 ∨ j = 1 ∨ j = 2 ∨ j = 3 ∨ j = 4 ∨ j = 5 := by omega
  have hi : i = 0 ∨ i = 1 ∨ i = 2 ∨ i = 3 ∨ i = 4 ∨ i = 5 := by omega
  rcases hi with rfl | rfl | rfl | rfl | rfl | rfl <;> rcases hj with rfl | rfl | rfl | rfl | rfl | rfl <;> simp -dsimp -implicitDefEqProofs [c_impl_bit, r_impl_bit, sp_pairs_eq, pI0, pI1, pI2, pI3, pI4, pI5, bitI, IntKind.wrap, IntKind.bits, IntKind.signed]
/-! ### a call that sees some objects, of which nothing is known here -/
def ClosedH (os : List (Option (List AV))) : Prop := ∀ b cs, hget os b = some cs → ltL os.length cs = true
theorem hset_pre (os r : List (Option (List AV))) (i : Nat) (x : Option (List AV)) : hset (os ++ r) (os.length + i) x = os ++ hset r i x := by
  induction os with
  | nil => simp
  | cons o os ih =>
    simp only [List.cons_append, List.length_cons, hset]
    rw [if_neg (by omega), show os.length + 1 + i - 1 = os.length + i by omega, ih]
theorem hset_pre0 (os r : List (Option (List AV))) (x : Option (List AV)) : hset (os ++ r) os.length x = os ++ hset r 0 x := hset_pre os r 0 x
theorem hsub_of {f : Nat → Nat} {n : Nat} {A : AHeap} : ∀ {l : List (Option (List AV))} {i : Nat}, (∀ b, b < l.length → f (i + b) < A.n) → (∀ b cs, hget l b = some cs → ltL n cs = true ∧ A (f (i + b)) = some (renL f cs)) → hsub f n A i l
  | [], i, _, _ => trivial
  | none :: r, i, h1, h2 => ⟨by simpa using h1 0 (by simp), hsub_of (fun b hb => by have := h1 (b + 1) (by simp; omega); rwa [show i + (b + 1) = i + 1 + b by omega] at this) (fun b cs hb => by have := h2 (b + 1) cs (by simpa [hget] using hb); rwa [show i + (b + 1) = i + 1 + b by omega] at this)⟩
  | some c :: r, i, h1, h2 => ⟨by simpa using h2 0 c (by simp [hget]), hsub_of (fun b hb => by have := h1 (b + 1) (by simp; omega); rwa [show i + (b + 1) = i + 1 + b by omega] at this) (fun b cs hb => by have := h2 (b + 1) cs (by simpa [hget] using hb); rwa [show i + (b + 1) = i + 1 + b by omega] at this)⟩
theorem hsub_pre {os r : List (Option (List AV))} {m : Nat} (ho : ClosedH os) (hm : os.length ≤ m) : hsub (fun b => b) m ⟨os ++ r⟩ 0 os := by
  refine hsub_of (fun b hb => ?_) fun b cs hb => ?_
  · simp [AHeap.n]; omega
  · have hlt := hget_lt hb
    rw [Nat.zero_add]
    refine ⟨ltL_mono hm _ (ho b cs hb), ?_⟩
    show hget (os ++ r) b = _
    rw [hget_append, if_pos hlt, renL_id, hb]
theorem hsub_append {f : Nat → Nat} {n : Nat} {A : AHeap} : ∀ (l k : List (Option (List AV))) (i : Nat), hsub f n A i l → hsub f n A (i + l.length) k → hsub f n A i (l ++ k)
  | [], k, i, _, h => h
  | none :: r, k, i, h1, h => ⟨h1.1, hsub_append r k (i + 1) h1.2 (by rw [List.length_cons, show i + (r.length + 1) = i + 1 + r.length by omega] at h; exact h)⟩
  | some c :: r, k, i, h1, h => ⟨h1.1, hsub_append r k (i + 1) h1.2 (by rw [List.length_cons, show i + (r.length + 1) = i + 1 + r.length by omega] at h; exact h)⟩
theorem Sub.pre {os r r' : List (Option (List AV))} {t : Nat → AV} {l : List (Nat × AV)} (ho : ClosedH os) (hs : hsub (fun b => b) (os.length + r'.length) ⟨os ++ r⟩ os.length r') (ht : ∀ p ∈ l, p.2.lt (os.length + r'.length) = true ∧ t p.1 = p.2) : Sub os.length ⟨t, ⟨os ++ r⟩⟩ ⟨tl l, ⟨os ++ r'⟩⟩ := by
  have e : (os ++ r').length = os.length + r'.length := by simp
  refine Sub.keep (by simp) ?_ (by rw [e]; exact ht)
  rw [e]
  exact hsub_append _ _ _ (hsub_pre ho (by omega)) (by rw [Nat.zero_add]; exact hs)
theorem View.pre {os r : List (Option (List AV))} (ho : ClosedH os) : View (fun b => b) ⟨os ++ r⟩ ⟨os⟩ := by
  refine ⟨fun b hb => ?_, fun b cs hb => ?_, fun b b' cs cs' _ _ e => e⟩
  · have hb : b < os.length := hb
    simp [AHeap.n]; omega
  · have hlt := hget_lt hb
    refine ⟨ho b cs hb, ?_⟩
    show hget (os ++ r) b = _
    rw [hget_append, if_pos hlt, renL_id]
    exact hb
mutual
theorem ren_same {n : Nat} {g : Nat → Nat} (hg : ∀ b, b < n → g b = b) : ∀ x : AV, x.lt n = true → x.ren g = x
  | .ptr b o, h => by rw [AV.ren, hg b (of_decide_eq_true h)]
  | .ref b e o m t, h => by rw [AV.ren, hg b (of_decide_eq_true h)]
  | .ep x i o, h => by rw [AV.ren, ren_same hg x h]
  | .fn f cs, h => by rw [AV.ren, renL_same hg cs h]
  | .agg cs, h => by rw [AV.ren, renL_same hg cs h]
  | .tup cs, h => by rw [AV.ren, renL_same hg cs h]
  | .bool _, _ | .int _ _, _ | .str _, _ | .sl _ _, _ | .nilp, _ | .nilf, _ | .nili, _ | .iface, _ | .mv _ _, _ | .any, _ => rfl
theorem renL_same {n : Nat} {g : Nat → Nat} (hg : ∀ b, b < n → g b = b) : ∀ cs : List AV, ltL n cs = true → renL g cs = cs
  | [], _ => rfl
  | x :: r, h => by
    simp only [ltL, Bool.and_eq_true] at h
    rw [renL, ren_same hg x h.1, renL_same hg r h.2]
end
theorem upd_pre (g : Nat → Nat) (os r : List (Option (List AV))) (ho : ClosedH os) (hg : ∀ b, b < os.length → g b = b) : upd (fun b => b) g 0 os os (os ++ r) = os ++ r := by
  have key : ∀ (a b : List (Option (List AV))), (∀ i cs, hget b i = some cs → renL g cs = cs) → upd (fun b => b) g a.length b b (a ++ b ++ r) = a ++ b ++ r := by
    intro a b
    induction b generalizing a with
    | nil => intro _; simp [upd]
    | cons o b ih =>
      intro h
      rw [upd]
      have h0 : (if o.isSome = true then hset (a ++ o :: b ++ r) a.length (o.map (renL g)) else a ++ o :: b ++ r) = (a ++ [o]) ++ b ++ r := by
        cases o with
        | none => simp
        | some c =>
          simp only [Option.isSome_some, if_true, Option.map_some, List.append_assoc, List.cons_append]
          rw [hset_pre0, hset, if_pos rfl, h 0 c (by simp [hget])]
          simp
      rw [h0]
      have := ih (a ++ [o]) (fun i cs hi => h (i + 1) cs (by simpa [hget] using hi))
      simp only [List.length_append, List.length_cons, List.length_nil] at this
      rw [this]
      simp
  have := key [] os (fun i cs hi => renL_same hg cs (ho i cs hi))
  simpa using this
/-- A call that sees some objects and leaves them as they are. -/
theorem T.sees {f : FuncId} {args : List AV} {os : List (Option (List AV))} {v : AV} (h : T P f args ⟨os⟩ fun r A' => r = v ∧ A' = ⟨os⟩) (ho : ClosedH os) (ha : ltL os.length args = true) (hv : v.lt 0 = true) (r : List (Option (List AV))) :
    T P f args ⟨os ++ r⟩ fun x A' => x = v ∧ A' = ⟨os ++ r⟩ := by
  have := h.embed (A := ⟨os ++ r⟩) (View.pre ho) ha
  rw [renL_id] at this
  refine this.mono ?_
  rintro x A1 ⟨r', A1', ⟨rfl, rfl⟩, rfl, rfl⟩
  refine ⟨ren_low _ _ hv, AHeap.ext' ?_⟩
  exact upd_pre _ os r ho (fun b hb => by simp [extN, AHeap.n, hb])
end Go.Proofs.YtlglgcmpeabdnaaDoorAi
end

section
/- Contracts: graphs that are made. -/
namespace Go.Proofs.YtlglgcmpeabdnaaDoorAi
open Go Go.RowKit
set_option linter.unusedVariables false
set_option linter.unusedSimpArgs false
set_option maxRecDepth 20000

def rowE (J : Nat → Nat → Bool) (j : Nat) (e : Nat) : Nat → Nat
  | 0 => e
  | i + 1 => if J i j = true then rowE J j e i ||| 2 ^ bitI i j else rowE J j e i
def madeE (J : Nat → Nat → Bool) : Nat → Nat
  | 0 => 0
  | j + 1 => rowE J j (madeE J j) j
theorem bitI_lt {i j : Nat} (h : i < j) (hj : j < 5) : bitI i j < 10 := by
  unfold bitI
  rw [if_pos h]
  have h5 : j = 1 ∨ j = 2 ∨ j = 3 ∨ j = 4 := by omega
  rcases h5 with rfl | rfl | rfl | rfl <;> omega
theorem ClosedH.nil : ClosedH [] := fun b cs h => by cases h
end Go.Proofs.YtlglgcmpeabdnaaDoorAi
end

section
/- Edges of graphs as bits. -/
namespace Go.Proofs.YtlglgcmpeabdnaaDoorAi
open Go Go.RowKit
set_option linter.unusedVariables false
set_option linter.unusedSimpArgs false

theorem bitI_c {i j : Nat} : bitI i j = bitI j i := by
  unfold bitI
  by_cases h : i < j
  · rw [if_pos h, if_neg (by omega)]
  · by_cases h2 : j < i
    · rw [if_neg h, if_pos h2]
    · have : i = j := by omega
      subst this; simp
end Go.Proofs.YtlglgcmpeabdnaaDoorAi
end

section
/- Contracts of functions that take functions. -/
namespace Go.Proofs.YtlglgcmpeabdnaaDoorAi
open Go Go.RowKit
set_option linter.unusedVariables false
set_option linter.unusedSimpArgs false
set_option maxRecDepth 20000
variable {P : Program}

end Go.Proofs.YtlglgcmpeabdnaaDoorAi
end

section
/- Contracts: the graph with all edges. -/
namespace Go.Proofs.YtlglgcmpeabdnaaDoorAi
open Go Go.RowKit
set_option linter.unusedVariables false
set_option linter.unusedSimpArgs false
set_option maxRecDepth 20000

def compR (n : Int) : AV := if 0 ≤ n ∧ n ≤ 5 then .tup [.agg [.int .i64 n, .int .u32 (2 ^ (n.toNat * (n.toNat - 1) / 2) - 1 : Nat)], .int .i64 0] else .tup [.agg [.int .i64 0, .int .u32 0], .int .i64 2]
@[simp] theorem compR_lt (n : Int) (k : Nat) : (compR n).lt k = true := by unfold compR; split <;> rfl
noncomputable def sp_CompleteGraph : List AV → Option (AV) := pf (ι := (Int)) (α := AV) (fun n => True) (fun n => [.int .i64 n]) (fun n => compR n)
theorem sp_CompleteGraph_eq (n : Int) : sp_CompleteGraph [.int .i64 n] = some (compR n) := by
  unfold sp_CompleteGraph
  exact pf_eq (ι := (Int)) (α := AV) n trivial (by rintro n' _ e; simp_all [Int.natCast_inj])
attribute [simp] sp_CompleteGraph_eq
end Go.Proofs.YtlglgcmpeabdnaaDoorAi
end

section
/- MADE BY PROGRAM (wip/tools/gen.py): the abstract code of functions. -/
namespace Go.Proofs.YtlglgcmpeabdnaaDoorAi
open Go AC AOp Opd
set_option linter.unusedVariables false
set_option maxRecDepth 100000
def c_impl_Graph_has : AC := seq (reg [⟨(some 3), box 2 (t 0), none⟩, ⟨(some 6), mv (c (.bool false)), none⟩]) (seq (reg [⟨(some 7), fad (t 3) 1, none⟩, ⟨(some 8), ld (t 7) 1 false, none⟩, ⟨(some 9), mv (t 1), none⟩, ⟨(some 10), mv (t 2), none⟩, ⟨(some 11), callq (c (.fn 68 [])) [t 9, t 10], none⟩, ⟨(some 12), bin .and (t 8) (t 11), none⟩, ⟨(some 13), bin .neq (t 12) (c (.int .u32 0)), none⟩, ⟨(some 6), mv (t 13), none⟩]) (ret))
def r_impl_Graph_has : List ARes := [.tmp 6]
theorem k_impl_Graph_has : acLin Go.Proofs.Tryd.prog 64 3 (inQ [68] []) [⟨false, none, [], [], none⟩, ⟨false, some [0, 1, 2, 3, 4, 5, 6, 7], [], [], none⟩] = some (c_impl_Graph_has, r_impl_Graph_has) := by kernel_rfl
end Go.Proofs.YtlglgcmpeabdnaaDoorAi
end

section
/- Contracts: edges of graphs; opposite graphs; copies of lists. -/
namespace Go.Proofs.YtlglgcmpeabdnaaDoorAi
open Go Go.RowKit
set_option linter.unusedVariables false
set_option linter.unusedSimpArgs false
set_option maxRecDepth 20000

theorem andBit0 {a c : Nat} (ha : a < 4294967296) (hc : c < 1024) : IntKind.u32.wrap ((a % 2 ^ IntKind.u32.bits &&& ((c : Int) % 2 ^ IntKind.u32.bits).toNat : Nat)) = ((a &&& c : Nat) : Int) := by
  have e1 : a % 2 ^ IntKind.u32.bits = a := Nat.mod_eq_of_lt (by simp only [IntKind.bits]; omega)
  have e2 : ((c : Int) % 2 ^ IntKind.u32.bits).toNat = c := by
    rw [Int.emod_eq_of_lt (by omega) (by simp only [IntKind.bits]; omega)]
    simp
  rw [e1, e2]
  have : a &&& c ≤ c := Nat.and_le_right
  exact wrap32 (by omega) (by omega)
theorem and_pow (a b : Nat) : a &&& 2 ^ b = if a.testBit b = true then 2 ^ b else 0 := by
  apply Nat.eq_of_testBit_eq
  intro k
  rw [Nat.testBit_and, Nat.testBit_two_pow]
  by_cases h : b = k
  · subst h
    cases a.testBit b <;> simp
  · cases a.testBit b <;> simp [h, Nat.testBit_two_pow]
theorem andBit {a b : Nat} (ha : a < 4294967296) (hb : b < 10) : IntKind.u32.wrap ((a % 2 ^ IntKind.u32.bits &&& ((2 : Int) ^ b % 2 ^ IntKind.u32.bits).toNat : Nat)) = if a.testBit b = true then ((2 ^ b : Nat) : Int) else 0 := by
  have e : (2 : Int) ^ b = ((2 ^ b : Nat) : Int) := by simp
  rw [e, andBit0 ha (Nat.pow_lt_pow_right (n := 10) (by omega) hb), and_pow]
  cases a.testBit b <;> simp
theorem bitI_10 {i j : Nat} (hi : i < 5) (hj : j < 5) (h : i ≠ j) : bitI i j < 10 := by
  rcases Nat.lt_or_gt_of_ne h with h | h
  · exact bitI_lt h hj
  · rw [bitI_c]; exact bitI_lt h hi

def hasB (e i j : Int) : Bool := e.toNat.testBit (bitI i.toNat j.toNat)
def vx (i j : Int) : Prop := (0 ≤ i ∧ i < 5) ∧ (0 ≤ j ∧ j < 5) ∧ i ≠ j
noncomputable def sp_has : List AV → Option (AV) := pf (ι := (Int) × (Int) × (Int) × (Int)) (α := AV) (fun ⟨n, e, i, j⟩ => (0 ≤ e ∧ e ≤ 4294967295) ∧ vx i j) (fun ⟨n, e, i, j⟩ => [.agg [.int .i64 n, .int .u32 e], .int .i64 i, .int .i64 j]) (fun ⟨n, e, i, j⟩ => .bool (hasB e i j))
theorem sp_has_eq (n e i j : Int) (h : (0 ≤ e ∧ e ≤ 4294967295) ∧ vx i j) : sp_has [.agg [.int .i64 n, .int .u32 e], .int .i64 i, .int .i64 j] = some (.bool (hasB e i j)) := by
  unfold sp_has
  exact pf_eq (ι := (Int) × (Int) × (Int) × (Int)) (α := AV) (n, e, i, j) h (by rintro ⟨n', e', i', j'⟩ _ e; simp_all [Int.natCast_inj])
theorem q_impl_Graph_has : QP PP 64 sp_has := by
  refine QP_pf (fun i h => ?_) fun i h => ?_
  · obtain ⟨n, e, i, j⟩ := i; exact ⟨by first | rfl | simp, by first | rfl | simp⟩
  obtain ⟨n, e, i, j⟩ := i
  replace h : (0 ≤ e ∧ e ≤ 4294967295) ∧ vx i j := h
  refine P_code (Quiet.q1 q_impl_bit Quiet.nil) hmix k_impl_Graph_has rfl ?_ ?_
  · first | rfl | simp
  show wpc 0 PP _ c_impl_Graph_has (initSt [.agg [.int .i64 n, .int .u32 e], .int .i64 i, .int .i64 j] .nil) (endP r_impl_Graph_has (.bool (hasB e i j)))
  obtain ⟨⟨e0, e1⟩, ⟨i0, i1⟩, ⟨j0, j1⟩, hij⟩ := h
  obtain ⟨m, rfl⟩ := Int.eq_ofNat_of_zero_le e0
  have hb := andBit (a := m) (b := bitI i.toNat j.toNat) (by omega) (bitI_10 (by omega) (by omega) (by omega))
  simp -dsimp -implicitDefEqProofs [c_impl_Graph_has, r_impl_Graph_has, sp_bit_eq i j (by omega), hb, hasB]
  have hp : (2 : Int) ^ bitI i.toNat j.toNat ≠ 0 := Int.pow_ne_zero (by omega)
  cases m.testBit (bitI i.toNat j.toNat) <;> simp [hp]

def notE (e : Int) (n : Int) : Nat := madeE (fun i j => !hasB e i j) n.toNat
end Go.Proofs.YtlglgcmpeabdnaaDoorAi
end

section
/- MADE BY PROGRAM (wip/tools/gen.py): the abstract code of functions. -/
namespace Go.Proofs.YtlglgcmpeabdnaaDoorAi
open Go AC AOp Opd
set_option linter.unusedVariables false
set_option maxRecDepth 100000
def c_impl_Pattern_loop : AC := seq (reg [⟨(some 4), mv (c (.bool false)), none⟩]) (seq (reg [⟨(some 5), mv (t 0), none⟩, ⟨(some 6), nilc (t 5), none⟩, ⟨(some 7), fad (t 6) 2, none⟩, ⟨(some 8), ld (t 7) 1 false, none⟩, ⟨(some 9), mv (t 1), none⟩, ⟨(some 10), bin .shr (t 8) (t 9), none⟩, ⟨(some 11), bin .and (t 10) (c (.int .u32 1)), none⟩, ⟨(some 12), bin .eql (t 11) (c (.int .u32 1)), none⟩, ⟨(some 4), mv (t 12), none⟩]) (ret))
def r_impl_Pattern_loop : List ARes := [.tmp 4]
theorem k_impl_Pattern_loop : acLin Go.Proofs.Tryd.prog 38 2 (inQ [] []) [] = some (c_impl_Pattern_loop, r_impl_Pattern_loop) := by kernel_rfl
def c_spec_l01Bit : AC := seq (reg [⟨(some 4), mv (c (.int .u32 0)), none⟩]) (seq (seq (reg [⟨(some 5), mv (t 0), none⟩, ⟨(some 6), mv (t 1), none⟩, ⟨(some 7), bin .gtr (t 5) (t 6), none⟩]) (cond (t 7) (seq (reg [⟨(some 8), mv (t 1), none⟩, ⟨(some 9), mv (t 0), none⟩, ⟨(some 10), callq (c (.fn 47 [])) [t 8, t 9], none⟩, ⟨(some 4), mv (t 10), none⟩]) (ret)) (skip))) (seq (reg [⟨(some 11), mv (t 1), none⟩, ⟨(some 12), callq (c (.fn 44 [])) [t 11], none⟩, ⟨(some 13), mv (t 0), none⟩, ⟨(some 14), bin .add (t 12) (t 13), none⟩, ⟨(some 15), conv .u64 (t 14), none⟩, ⟨(some 16), bin .shl (c (.int .u32 1)) (t 15), none⟩, ⟨(some 4), mv (t 16), none⟩]) (ret)))
def r_spec_l01Bit : List ARes := [.tmp 4]
theorem k_spec_l01Bit : acLin Go.Proofs.Tryd.prog 47 2 (inQ [44, 47] []) [] = some (c_spec_l01Bit, r_spec_l01Bit) := by kernel_rfl
def c_spec_l01Joined : AC := seq (reg [⟨(some 3), box 2 (t 0), none⟩, ⟨(some 6), mv (c (.bool false)), none⟩]) (seq (reg [⟨(some 7), mv (t 1), none⟩, ⟨(some 8), mv (t 2), none⟩, ⟨(some 9), bin .neq (t 7) (t 8), none⟩, ⟨(some 10), mv (t 9), none⟩, ⟨(some 11), fad (t 3) 1, some (10, true)⟩, ⟨(some 12), ld (t 11) 1 false, some (10, true)⟩, ⟨(some 13), mv (t 1), some (10, true)⟩, ⟨(some 14), mv (t 2), some (10, true)⟩, ⟨(some 15), callq (c (.fn 47 [])) [t 13, t 14], some (10, true)⟩, ⟨(some 16), bin .and (t 12) (t 15), some (10, true)⟩, ⟨(some 17), bin .neq (t 16) (c (.int .u32 0)), some (10, true)⟩, ⟨(some 18), pick (t 10) (t 17) (c (.bool false)), none⟩, ⟨(some 6), mv (t 18), none⟩]) (ret))
def r_spec_l01Joined : List ARes := [.tmp 6]
theorem k_spec_l01Joined : acLin Go.Proofs.Tryd.prog 27 3 (inQ [47] []) [⟨false, none, [], [], none⟩, ⟨false, some [0, 1, 2, 3, 4, 5, 6, 7, 8, 9, 10, 11, 12], [], [], none⟩] = some (c_spec_l01Joined, r_spec_l01Joined) := by kernel_rfl
def c_spec_l07Joined : AC := seq (reg [⟨(some 6), mv (c (.bool false)), none⟩]) (seq (seq (reg [⟨(some 7), mv (t 1), none⟩, ⟨(some 8), mv (t 2), none⟩, ⟨(some 9), bin .eql (t 7) (t 8), none⟩]) (cond (t 9) (seq (reg [⟨(some 10), mv (t 0), none⟩, ⟨(some 11), nilc (t 10), none⟩, ⟨(some 12), fad (t 11) 2, none⟩, ⟨(some 13), ld (t 12) 1 false, none⟩, ⟨(some 14), mv (t 1), none⟩, ⟨(some 15), conv .u64 (t 14), none⟩, ⟨(some 16), bin .shr (t 13) (t 15), none⟩, ⟨(some 17), bin .and (t 16) (c (.int .u32 1)), none⟩, ⟨(some 18), bin .eql (t 17) (c (.int .u32 1)), none⟩, ⟨(some 6), mv (t 18), none⟩]) (ret)) (skip))) (seq (reg [⟨(some 19), mv (t 0), none⟩, ⟨(some 20), nilc (t 19), none⟩, ⟨(some 21), fad (t 20) 0, none⟩, ⟨(some 22), ld (t 21) 2 true, none⟩, ⟨(some 23), mv (t 1), none⟩, ⟨(some 24), mv (t 2), none⟩, ⟨(some 25), callq (c (.fn 27 [])) [t 22, t 23, t 24], none⟩, ⟨(some 6), mv (t 25), none⟩]) (ret)))
def r_spec_l07Joined : List ARes := [.tmp 6]
theorem k_spec_l07Joined : acLin Go.Proofs.Tryd.prog 12 3 (inQ [27] []) [] = some (c_spec_l07Joined, r_spec_l07Joined) := by kernel_rfl
end Go.Proofs.YtlglgcmpeabdnaaDoorAi
end

section
/- Contracts: joined parts of patterns. (Under way.) -/
namespace Go.Proofs.YtlglgcmpeabdnaaDoorAi
open Go Go.RowKit
set_option linter.unusedVariables false
set_option linter.unusedSimpArgs false
set_option maxRecDepth 20000

noncomputable def sp_sizeOk : List AV → Option (AV) := pf (ι := (Int)) (α := AV) (fun n => True) (fun n => [.int .i64 n]) (fun n => .bool (decide (0 ≤ n) && decide (n ≤ 5)))
theorem sp_sizeOk_eq (n : Int) : sp_sizeOk [.int .i64 n] = some (.bool (decide (0 ≤ n) && decide (n ≤ 5))) := by
  unfold sp_sizeOk
  exact pf_eq (ι := (Int)) (α := AV) n trivial (by rintro n' _ e; simp_all [Int.natCast_inj])
attribute [simp] sp_sizeOk_eq
theorem shrBit {l i : Nat} (hl : l < 4294967296) (hi : i < 5) : (IntKind.u32.wrap ((((l : Int).fdiv (2 ^ min i IntKind.u32.bits) % 2 ^ IntKind.u32.bits).toNat &&& 1 % 2 ^ IntKind.u32.bits : Nat)) == 1) = l.testBit i := by
  have e0 : min i IntKind.u32.bits = i := Nat.min_eq_left (by simp only [IntKind.bits]; omega)
  have e1 : (2 : Int) ^ i = ((2 ^ i : Nat) : Int) := by simp
  have hq : l / 2 ^ i ≤ l := Nat.div_le_self _ _
  have e2 : ((l : Int).fdiv (2 ^ i) % 2 ^ IntKind.u32.bits).toNat = l / 2 ^ i := by
    rw [e1]
    generalize 2 ^ i = c at hq
    rw [Int.fdiv_eq_ediv_of_nonneg _ (Int.natCast_nonneg c), ← Int.natCast_ediv]
    generalize l / c = d at hq
    rw [Int.emod_eq_of_lt (by omega) (by simp only [IntKind.bits]; omega)]
    simp
  rw [e0, e2, show (1 : Nat) % 2 ^ IntKind.u32.bits = 1 from rfl, Nat.and_one_is_mod, wrap32 (by omega) (by omega), Nat.testBit_eq_decide_div_mod_eq]
  generalize l / 2 ^ i = d
  rw [Bool.eq_iff_iff, beq_iff_eq, decide_eq_true_eq]
  omega
def loopB (l i : Int) : Bool := l.toNat.testBit i.toNat
noncomputable def sp_loopP : List (Option (List AV)) → List AV → Option (AV × List (Option (List AV))) := pv (pf (ι := (Int) × (Int) × (Int) × (List Fr) × (Int)) (α := AV × List (Option (List AV))) (fun ⟨n, e, l, ps, i⟩ => (0 ≤ l ∧ l ≤ 4294967295) ∧ (0 ≤ i ∧ i < 5)) (fun i => .agg (((fun ⟨n, e, l, ps, i⟩ => [some [.int .i64 n, .int .u32 e, .int .u32 l, .sl (frsA ps) false]] : (Int) × (Int) × (Int) × (List Fr) × (Int) → List (Option (List AV))) i).map enO) :: (fun ⟨n, e, l, ps, i⟩ => [.ptr 0 0, .int .i64 i] : (Int) × (Int) × (Int) × (List Fr) × (Int) → List AV) i) (fun ⟨n, e, l, ps, i⟩ => (.bool (loopB l i), [some [.int .i64 n, .int .u32 e, .int .u32 l, .sl (frsA ps) false]])))
theorem sp_loopP_eq (n e l : Int) (ps : List Fr) (i : Int) (h : (0 ≤ l ∧ l ≤ 4294967295) ∧ (0 ≤ i ∧ i < 5)) : sp_loopP [some [.int .i64 n, .int .u32 e, .int .u32 l, .sl (frsA ps) false]] [.ptr 0 0, .int .i64 i] = some (.bool (loopB l i), [some [.int .i64 n, .int .u32 e, .int .u32 l, .sl (frsA ps) false]]) := by
  unfold sp_loopP pv
  exact pf_eq (ι := (Int) × (Int) × (Int) × (List Fr) × (Int)) (α := AV × List (Option (List AV))) (n, e, l, ps, i) h (by rintro ⟨n', e', l', ps', i'⟩ _ e; simp_all [enO, Int.natCast_inj])
theorem v_impl_Pattern_loop : QV PP 38 sp_loopP := by
  refine QV_pf fun i h => ?_
  obtain ⟨n, e, l, ps, i⟩ := i
  replace h : (0 ≤ l ∧ l ≤ 4294967295) ∧ (0 ≤ i ∧ i < 5) := h
  refine H_code Quiet.nil hmix k_impl_Pattern_loop rfl (fun b => b) (by simp [AHeap.n]) (fun _ _ => rfl) (by rfl) (by first | rfl | simp) ?_
  show wpc _ PP _ c_impl_Pattern_loop (initSt [.ptr 0 0, .int .i64 i] ⟨[some [.int .i64 n, .int .u32 e, .int .u32 l, .sl (frsA ps) false]]⟩) (endH (fun b => b) r_impl_Pattern_loop (.bool (loopB l i)) [some [.int .i64 n, .int .u32 e, .int .u32 l, .sl (frsA ps) false]])
  obtain ⟨⟨l0, l1⟩, i0, i1⟩ := h
  obtain ⟨m, rfl⟩ := Int.eq_ofNat_of_zero_le l0
  have hn : ¬ i < 0 := by omega
  have hb := shrBit (l := m) (i := i.toNat) (by omega) (by omega)
  simp -dsimp -implicitDefEqProofs [c_impl_Pattern_loop, r_impl_Pattern_loop, hn, hb, loopB, hsub]
def joinB (e l i j : Int) : Bool := if i = j then loopB l i else hasB e i j
noncomputable def sp_joinP : List (Option (List AV)) → List AV → Option (AV × List (Option (List AV))) := pv (pf (ι := (Int) × (Int) × (Int) × (List Fr) × (Int) × (Int)) (α := AV × List (Option (List AV))) (fun ⟨n, e, l, ps, i, j⟩ => ((0 ≤ e ∧ e ≤ 4294967295) ∧ (0 ≤ l ∧ l ≤ 4294967295)) ∧ (0 ≤ i ∧ i < 5) ∧ (0 ≤ j ∧ j < 5)) (fun i => .agg (((fun ⟨n, e, l, ps, i, j⟩ => [some [.int .i64 n, .int .u32 e, .int .u32 l, .sl (frsA ps) false]] : (Int) × (Int) × (Int) × (List Fr) × (Int) × (Int) → List (Option (List AV))) i).map enO) :: (fun ⟨n, e, l, ps, i, j⟩ => [.ptr 0 0, .int .i64 i, .int .i64 j] : (Int) × (Int) × (Int) × (List Fr) × (Int) × (Int) → List AV) i) (fun ⟨n, e, l, ps, i, j⟩ => (.bool (joinB e l i j), [some [.int .i64 n, .int .u32 e, .int .u32 l, .sl (frsA ps) false]])))
theorem sp_joinP_eq (n e l : Int) (ps : List Fr) (i j : Int) (h : ((0 ≤ e ∧ e ≤ 4294967295) ∧ (0 ≤ l ∧ l ≤ 4294967295)) ∧ (0 ≤ i ∧ i < 5) ∧ (0 ≤ j ∧ j < 5)) : sp_joinP [some [.int .i64 n, .int .u32 e, .int .u32 l, .sl (frsA ps) false]] [.ptr 0 0, .int .i64 i, .int .i64 j] = some (.bool (joinB e l i j), [some [.int .i64 n, .int .u32 e, .int .u32 l, .sl (frsA ps) false]]) := by
  unfold sp_joinP pv
  exact pf_eq (ι := (Int) × (Int) × (Int) × (List Fr) × (Int) × (Int)) (α := AV × List (Option (List AV))) (n, e, l, ps, i, j) h (by rintro ⟨n', e', l', ps', i', j'⟩ _ e; simp_all [enO, Int.natCast_inj])
end Go.Proofs.YtlglgcmpeabdnaaDoorAi
end

section
/- Contracts: joined vertices, as the reference has them. (Under way.) -/
namespace Go.Proofs.YtlglgcmpeabdnaaDoorAi
open Go Go.RowKit
set_option linter.unusedVariables false
set_option linter.unusedSimpArgs false
set_option maxRecDepth 20000

/-- A contract that says nothing: for a call that does not come. -/
theorem QP.none (P : Program) (f : FuncId) : QP P f (fun _ => Option.none) := fun _ _ h => by cases h
noncomputable def sp_bitLe : List AV → Option (AV) := pf (ι := (Int) × (Int)) (α := AV) (fun ⟨i, j⟩ => (0 ≤ i ∧ i ≤ 5) ∧ (0 ≤ j ∧ j ≤ 5) ∧ i ≤ j) (fun ⟨i, j⟩ => [.int .i64 i, .int .i64 j]) (fun ⟨i, j⟩ => .int .u32 (2 ^ bitI i.toNat j.toNat))
theorem sp_bitLe_eq (i j : Int) (h : (0 ≤ i ∧ i ≤ 5) ∧ (0 ≤ j ∧ j ≤ 5) ∧ i ≤ j) : sp_bitLe [.int .i64 i, .int .i64 j] = some (.int .u32 (2 ^ bitI i.toNat j.toNat)) := by
  unfold sp_bitLe
  exact pf_eq (ι := (Int) × (Int)) (α := AV) (i, j) h (by rintro ⟨i', j'⟩ _ e; simp_all [Int.natCast_inj])
theorem q_bitLe : QP PP 47 sp_bitLe := by
  refine QP_pf (fun i h => ?_) fun i h => ?_
  · obtain ⟨i, j⟩ := i; exact ⟨rfl, rfl⟩
  obtain ⟨i, j⟩ := i
  replace h : (0 ≤ i ∧ i ≤ 5) ∧ (0 ≤ j ∧ j ≤ 5) ∧ i ≤ j := h
  refine P_code (Quiet.q1 (QP.none PP 47) (Quiet.q1 q_spec_l01Bits Quiet.nil)) hmix k_spec_l01Bit rfl rfl ?_
  obtain ⟨⟨i0, i1⟩, ⟨j0, j1⟩, hij⟩ := h
  have hj : j = 0 ∨ j = 1 ∨ j = 2 ∨ j = 3 ∨ j = 4 ∨ j = 5 := by omega
  have hi : i = 0 ∨ i = 1 ∨ i = 2 ∨ i = 3 ∨ i = 4 ∨ i = 5 := by omega
  rcases hi with rfl | rfl | rfl | rfl | rfl | rfl <;> rcases hj with rfl | rfl | rfl | rfl | rfl | rfl <;> first | (exfalso; omega) | simp -dsimp -implicitDefEqProofs [c_spec_l01Bit, r_spec_l01Bit, sp_pairs_eq, pI0, pI1, pI2, pI3, pI4, pI5, bitI, IntKind.wrap, IntKind.bits, IntKind.signed]
theorem q_spec_l01Bit : QP PP 47 sp_bit := by
  refine QP_pf (fun i h => ?_) fun i h => ?_
  · obtain ⟨i, j⟩ := i; exact ⟨rfl, rfl⟩
  obtain ⟨i, j⟩ := i
  replace h : (0 ≤ i ∧ i ≤ 5) ∧ (0 ≤ j ∧ j ≤ 5) := h
  by_cases hij : i ≤ j
  · exact (q_bitLe _ _ (sp_bitLe_eq i j ⟨h.1, h.2, hij⟩)).2
  · refine P_code (Quiet.q1 q_bitLe (Quiet.q1 q_spec_l01Bits Quiet.nil)) hmix k_spec_l01Bit rfl rfl ?_
    have hlt : j < i := by omega
    simp -dsimp -implicitDefEqProofs [c_spec_l01Bit, r_spec_l01Bit, hlt, sp_bitLe_eq j i ⟨h.2, h.1, by omega⟩, bitI_c (i := j.toNat) (j := i.toNat)]
def joinedB (e i j : Int) : Bool := decide (i ≠ j) && hasB e i j
noncomputable def sp_l01Joined : List AV → Option (AV) := pf (ι := (Int) × (Int) × (Int) × (Int)) (α := AV) (fun ⟨n, e, i, j⟩ => (0 ≤ e ∧ e ≤ 4294967295) ∧ (0 ≤ i ∧ i < 5) ∧ (0 ≤ j ∧ j < 5)) (fun ⟨n, e, i, j⟩ => [.agg [.int .i64 n, .int .u32 e], .int .i64 i, .int .i64 j]) (fun ⟨n, e, i, j⟩ => .bool (joinedB e i j))
theorem sp_l01Joined_eq (n e i j : Int) (h : (0 ≤ e ∧ e ≤ 4294967295) ∧ (0 ≤ i ∧ i < 5) ∧ (0 ≤ j ∧ j < 5)) : sp_l01Joined [.agg [.int .i64 n, .int .u32 e], .int .i64 i, .int .i64 j] = some (.bool (joinedB e i j)) := by
  unfold sp_l01Joined
  exact pf_eq (ι := (Int) × (Int) × (Int) × (Int)) (α := AV) (n, e, i, j) h (by rintro ⟨n', e', i', j'⟩ _ e; simp_all [Int.natCast_inj])
theorem q_spec_l01Joined : QP PP 27 sp_l01Joined := by
  refine QP_pf (fun i h => ?_) fun i h => ?_
  · obtain ⟨n, e, i, j⟩ := i; exact ⟨by first | rfl | simp, by first | rfl | simp⟩
  obtain ⟨n, e, i, j⟩ := i
  replace h : (0 ≤ e ∧ e ≤ 4294967295) ∧ (0 ≤ i ∧ i < 5) ∧ (0 ≤ j ∧ j < 5) := h
  refine P_code (Quiet.q1 q_spec_l01Bit Quiet.nil) hmix k_spec_l01Joined rfl ?_ ?_
  · first | rfl | simp
  show wpc 0 PP _ c_spec_l01Joined (initSt [.agg [.int .i64 n, .int .u32 e], .int .i64 i, .int .i64 j] .nil) (endP r_spec_l01Joined (.bool (joinedB e i j)))
  obtain ⟨⟨e0, e1⟩, ⟨i0, i1⟩, ⟨j0, j1⟩⟩ := h
  by_cases hij : i = j
  · subst hij
    simp -dsimp -implicitDefEqProofs [c_spec_l01Joined, r_spec_l01Joined, joinedB]
  · obtain ⟨m, rfl⟩ := Int.eq_ofNat_of_zero_le e0
    have hb := andBit (a := m) (b := bitI i.toNat j.toNat) (by omega) (bitI_10 (by omega) (by omega) (by omega))
    have hn : (i != j) = true := by simpa using hij
    simp -dsimp -implicitDefEqProofs [c_spec_l01Joined, r_spec_l01Joined, hn, sp_bit_eq i j (by omega), hb, joinedB, hasB, hij]
    have hp : (2 : Int) ^ bitI i.toNat j.toNat ≠ 0 := Int.pow_ne_zero (by omega)
    cases m.testBit (bitI i.toNat j.toNat) <;> simp [hp]
theorem v_spec_l07Joined : QV PP 12 sp_joinP := by
  refine QV_pf fun i h => ?_
  obtain ⟨n, e, l, ps, i, j⟩ := i
  replace h : ((0 ≤ e ∧ e ≤ 4294967295) ∧ (0 ≤ l ∧ l ≤ 4294967295)) ∧ (0 ≤ i ∧ i < 5) ∧ (0 ≤ j ∧ j < 5) := h
  refine H_code (Quiet.q1 q_spec_l01Joined Quiet.nil) hmix k_spec_l07Joined rfl (fun b => b) (by simp [AHeap.n]) (fun _ _ => rfl) (by rfl) (by first | rfl | simp) ?_
  show wpc _ PP _ c_spec_l07Joined (initSt [.ptr 0 0, .int .i64 i, .int .i64 j] ⟨[some [.int .i64 n, .int .u32 e, .int .u32 l, .sl (frsA ps) false]]⟩) (endH (fun b => b) r_spec_l07Joined (.bool (joinB e l i j)) [some [.int .i64 n, .int .u32 e, .int .u32 l, .sl (frsA ps) false]])
  by_cases hij : i = j
  · subst hij
    obtain ⟨⟨he, l0, l1⟩, ⟨i0, i1⟩, _⟩ := h
    obtain ⟨m, rfl⟩ := Int.eq_ofNat_of_zero_le l0
    have hu : IntKind.u64.wrap i = i := wrapU64 (by omega) (by omega)
    have hn : ¬ i < 0 := by omega
    have hb := shrBit (l := m) (i := i.toNat) (by omega) (by omega)
    simp -dsimp -implicitDefEqProofs [c_spec_l07Joined, r_spec_l07Joined, hu, hn, hb, joinB, loopB, hsub]
  · have hb : (i == j) = false := by simpa using hij
    simp -dsimp -implicitDefEqProofs [c_spec_l07Joined, r_spec_l07Joined, hb, hij, sp_l01Joined_eq n e i j ⟨h.1.1, h.2.1, h.2.2⟩, joinedB, joinB, hsub]
end Go.Proofs.YtlglgcmpeabdnaaDoorAi
end

section
/- Contracts: opposite patterns. -/
namespace Go.Proofs.YtlglgcmpeabdnaaDoorAi
open Go Go.RowKit
set_option linter.unusedVariables false
set_option linter.unusedSimpArgs false
set_option maxRecDepth 20000

def oppG (n e : Int) : AV := if graphOk n e = true then .tup [.agg [.int .i64 n, .int .u32 (notE e n)], .int .i64 0] else .tup [.agg [.int .i64 0, .int .u32 0], .int .i64 1]
@[simp] theorem oppG_lt (n e : Int) (k : Nat) : (oppG n e).lt k = true := by unfold oppG; split <;> rfl
end Go.Proofs.YtlglgcmpeabdnaaDoorAi
end

section
/- Contracts: marks in patterns. -/
namespace Go.Proofs.YtlglgcmpeabdnaaDoorAi
open Go Go.RowKit
set_option linter.unusedVariables false
set_option linter.unusedSimpArgs false
set_option maxRecDepth 20000

noncomputable def sp_markFr0 : List AV → Option (AV) := pf (ι := (Int)) (α := AV) (fun k => True) (fun k => [.sl [] false, .int .i64 k]) (fun k => .int .i64 k)
theorem sp_markFr0_eq (k : Int) : sp_markFr0 [.sl [] false, .int .i64 k] = some (.int .i64 k) := by
  unfold sp_markFr0
  exact pf_eq (ι := (Int)) (α := AV) k trivial (by rintro k' _ e; simp_all [Int.natCast_inj])
attribute [simp] sp_markFr0_eq
noncomputable def sp_markPat0 : List AV → Option (AV) := pf (ι := (Int) × (Int) × (Int) × (Int)) (α := AV) (fun ⟨a, b, c, k⟩ => True) (fun ⟨a, b, c, k⟩ => [.agg [.int .i64 a, .int .u32 b, .int .u32 c, .sl [] false], .int .i64 k]) (fun ⟨a, b, c, k⟩ => .int .i64 k)
theorem sp_markPat0_eq (a b c k : Int) : sp_markPat0 [.agg [.int .i64 a, .int .u32 b, .int .u32 c, .sl [] false], .int .i64 k] = some (.int .i64 k) := by
  unfold sp_markPat0
  exact pf_eq (ι := (Int) × (Int) × (Int) × (Int)) (α := AV) (a, b, c, k) trivial (by rintro ⟨a', b', c', k'⟩ _ e; simp_all [Int.natCast_inj])
attribute [simp] sp_markPat0_eq
end Go.Proofs.YtlglgcmpeabdnaaDoorAi
end

section
/- Contracts: the pattern of opposite graphs. -/
namespace Go.Proofs.YtlglgcmpeabdnaaDoorAi
open Go Go.RowKit
set_option linter.unusedVariables false
set_option linter.unusedSimpArgs false
set_option maxRecDepth 20000

end Go.Proofs.YtlglgcmpeabdnaaDoorAi
end

section
/- MADE BY PROGRAM (wip/tools/gen.py): the abstract code of functions. -/
namespace Go.Proofs.YtlglgcmpeabdnaaDoorAi
open Go AC AOp Opd
set_option linter.unusedVariables false
set_option maxRecDepth 100000
def c_strconv_FormatInt : AC := seq (reg [⟨(some 4), mv (c (.str ⟨#[]⟩)), none⟩]) (seq (reg [⟨(some 5), mv (t 0), none⟩, ⟨(some 6), mv (t 1), none⟩, ⟨(some 7), callq (c (.fn 65 [])) [t 5, t 6], none⟩, ⟨(some 4), mv (t 7), none⟩]) (ret))
def r_strconv_FormatInt : List ARes := [.tmp 4]
theorem k_strconv_FormatInt : acLin Go.Proofs.Tryd.prog 56 2 (inQ [65] []) [] = some (c_strconv_FormatInt, r_strconv_FormatInt) := by kernel_rfl
def c_spec_Decimal : AC := seq (reg [⟨(some 2), mv (c (.str ⟨#[]⟩)), none⟩]) (seq (seq (reg [⟨(some 3), mv (t 0), none⟩, ⟨(some 4), bin .geq (t 3) (c (.int .i64 10)), none⟩]) (cond (t 4) (seq (reg [⟨(some 5), mv (t 0), none⟩, ⟨(some 6), bin .quo (t 5) (c (.int .i64 10)), none⟩, ⟨(some 7), callq (c (.fn 13 [])) [t 6], none⟩, ⟨(some 8), mv (t 0), none⟩, ⟨(some 9), bin .rem (t 8) (c (.int .i64 10)), none⟩, ⟨(some 10), bin .add (c (.int .i64 48)) (t 9), none⟩, ⟨(some 11), conv .u8 (t 10), none⟩, ⟨(some 12), bsl 1 1 [.int .u8 0] [(0, t 11)], none⟩, ⟨(some 13), b2s (t 12), none⟩, ⟨(some 14), bin .add (t 7) (t 13), none⟩, ⟨(some 2), mv (t 14), none⟩]) (ret)) (skip))) (seq (reg [⟨(some 15), mv (t 0), none⟩, ⟨(some 16), bin .add (c (.int .i64 48)) (t 15), none⟩, ⟨(some 17), conv .u8 (t 16), none⟩, ⟨(some 18), bsl 1 1 [.int .u8 0] [(0, t 17)], none⟩, ⟨(some 19), b2s (t 18), none⟩, ⟨(some 2), mv (t 19), none⟩]) (ret)))
def r_spec_Decimal : List ARes := [.tmp 2]
theorem k_spec_Decimal : acLin Go.Proofs.Tryd.prog 13 1 (inQ [13] []) [⟨false, none, [], [], none⟩, ⟨false, none, [], [], none⟩, ⟨false, some [0, 1, 2, 3, 4, 5, 6, 7, 8, 9, 10], [], [], none⟩] = some (c_spec_Decimal, r_spec_Decimal) := by kernel_rfl
def c_impl_decimal : AC := seq (reg [⟨(some 2), mv (c (.str ⟨#[]⟩)), none⟩]) (seq (reg [⟨(some 3), mv (t 0), none⟩, ⟨(some 4), callq (c (.fn 56 [])) [t 3, c (.int .i64 10)], none⟩, ⟨(some 2), mv (t 4), none⟩]) (ret))
def r_impl_decimal : List ARes := [.tmp 2]
theorem k_impl_decimal : acLin Go.Proofs.Tryd.prog 39 1 (inQ [56] []) [] = some (c_impl_decimal, r_impl_decimal) := by kernel_rfl
def c_impl_Fraction_text : AC := seq (reg [⟨(some 1), box 2 (t 0), none⟩, ⟨(some 2), mv (c (.str ⟨#[]⟩)), none⟩]) (seq (seq (reg [⟨(some 3), fad (t 1) 1, none⟩, ⟨(some 4), ld (t 3) 1 false, none⟩, ⟨(some 5), bin .eql (t 4) (c (.int .i64 1)), none⟩]) (cond (t 5) (seq (reg [⟨(some 6), fad (t 1) 0, none⟩, ⟨(some 7), ld (t 6) 1 false, none⟩, ⟨(some 8), callq (c (.fn 39 [])) [t 7], none⟩, ⟨(some 2), mv (t 8), none⟩]) (ret)) (skip))) (seq (reg [⟨(some 9), fad (t 1) 0, none⟩, ⟨(some 10), ld (t 9) 1 false, none⟩, ⟨(some 11), callq (c (.fn 39 [])) [t 10], none⟩, ⟨(some 12), bin .add (t 11) (c (.str ⟨#[47]⟩)), none⟩, ⟨(some 13), fad (t 1) 1, none⟩, ⟨(some 14), ld (t 13) 1 false, none⟩, ⟨(some 15), callq (c (.fn 39 [])) [t 14], none⟩, ⟨(some 16), bin .add (t 12) (t 15), none⟩, ⟨(some 2), mv (t 16), none⟩]) (ret)))
def r_impl_Fraction_text : List ARes := [.tmp 2]
theorem k_impl_Fraction_text : acLin Go.Proofs.Tryd.prog 57 1 (inQ [39] []) [⟨false, none, [], [], none⟩, ⟨false, none, [], [], none⟩, ⟨false, none, [], [], none⟩, ⟨false, none, [], [], none⟩, ⟨false, some [0, 1, 2, 3, 4, 5, 6, 7, 8], [], [], none⟩] = some (c_impl_Fraction_text, r_impl_Fraction_text) := by kernel_rfl
def c_spec_FractionText : AC := seq (reg [⟨(some 1), box 2 (t 0), none⟩, ⟨(some 2), mv (c (.str ⟨#[]⟩)), none⟩]) (seq (seq (reg [⟨(some 4), ld (t 1) 2 true, none⟩, ⟨(some 5), callq (c (.fn 28 [])) [t 4], none⟩, ⟨(some 6), un .not (t 5), none⟩]) (cond (t 6) (seq (reg [⟨(some 2), mv (c (.str ⟨#[]⟩)), none⟩]) (ret)) (skip))) (seq (reg [⟨(some 7), fad (t 1) 0, none⟩, ⟨(some 8), ld (t 7) 1 false, none⟩, ⟨(some 9), callq (c (.fn 29 [])) [t 8], none⟩, ⟨(some 10), callq (c (.fn 13 [])) [t 9], none⟩, ⟨(some 3), mv (t 10), none⟩]) (seq (seq (reg [⟨(some 11), fad (t 1) 0, none⟩, ⟨(some 12), ld (t 11) 1 false, none⟩, ⟨(some 13), bin .lss (t 12) (c (.int .i64 0)), none⟩]) (cond (t 13) (reg [⟨(some 14), mv (t 3), none⟩, ⟨(some 15), bin .add (c (.str ⟨#[45]⟩)) (t 14), none⟩, ⟨(some 3), mv (t 15), none⟩]) (skip))) (seq (seq (reg [⟨(some 16), fad (t 1) 1, none⟩, ⟨(some 17), ld (t 16) 1 false, none⟩, ⟨(some 18), bin .neq (t 17) (c (.int .i64 1)), none⟩]) (cond (t 18) (reg [⟨(some 19), mv (t 3), none⟩, ⟨(some 20), fad (t 1) 1, none⟩, ⟨(some 21), ld (t 20) 1 false, none⟩, ⟨(some 22), callq (c (.fn 13 [])) [t 21], none⟩, ⟨(some 23), bin .add (c (.str ⟨#[47]⟩)) (t 22), none⟩, ⟨(some 24), bin .add (t 19) (t 23), none⟩, ⟨(some 3), mv (t 24), none⟩]) (skip))) (seq (reg [⟨(some 25), mv (t 3), none⟩, ⟨(some 2), mv (t 25), none⟩]) (ret))))))
def r_spec_FractionText : List ARes := [.tmp 2]
theorem k_spec_FractionText : acLin Go.Proofs.Tryd.prog 14 1 (inQ [13, 28, 29] []) [] = some (c_spec_FractionText, r_spec_FractionText) := by kernel_rfl
def c_impl_Graph_edges : AC := seq (reg [⟨(some 1), box 2 (t 0), none⟩, ⟨(some 2), mv (c (.sl [] true)), none⟩]) (seq (reg [⟨(some 6), bsl 2 0 [.int .i64 0, .int .i64 0] [], none⟩, ⟨(some 3), mv (t 6), none⟩]) (seq (seq (reg [⟨(some 7), fad (t 1) 0, none⟩, ⟨(some 8), ld (t 7) 1 false, none⟩, ⟨(some 9), mv (c (.int .i64 0)), none⟩]) (block 0 (loop (seq (reg [⟨(some 10), bin .lss (t 9) (t 8), none⟩]) (seq (cond (t 10) (skip) (exit 0)) (seq (block 1 (seq (reg [⟨(some 11), mv (t 9), none⟩, ⟨(some 4), mv (t 11), none⟩]) (seq (reg [⟨(some 12), mv (t 4), none⟩, ⟨(some 13), mv (c (.int .i64 0)), none⟩]) (block 2 (loop (seq (reg [⟨(some 14), bin .lss (t 13) (t 12), none⟩]) (seq (cond (t 14) (skip) (exit 2)) (seq (block 3 (seq (reg [⟨(some 15), mv (t 13), none⟩, ⟨(some 5), mv (t 15), none⟩]) (seq (reg [⟨(some 16), ld (t 1) 2 true, none⟩, ⟨(some 17), mv (t 5), none⟩, ⟨(some 18), mv (t 4), none⟩, ⟨(some 19), callq (c (.fn 64 [])) [t 16, t 17, t 18], none⟩]) (cond (t 19) (reg [⟨(some 20), mv (t 3), none⟩, ⟨(some 21), mv (t 5), none⟩, ⟨(some 22), mv (t 4), none⟩, ⟨(some 23), bld [.int .i64 0, .int .i64 0] [(0, 1, t 21), (1, 1, t 22)], none⟩, ⟨(some 24), bsl 2 1 [.int .i64 0, .int .i64 0] [(0, t 23)], none⟩, ⟨(some 25), app 2 16 (t 20) (t 24), none⟩, ⟨(some 3), mv (t 25), none⟩]) (skip))))) (reg [⟨(some 26), bin .add (t 13) (c (.int .i64 1)), none⟩, ⟨(some 13), mv (t 26), none⟩]))))))))) (reg [⟨(some 27), bin .add (t 9) (c (.int .i64 1)), none⟩, ⟨(some 9), mv (t 27), none⟩]))))))) (seq (reg [⟨(some 28), mv (t 3), none⟩, ⟨(some 2), mv (t 28), none⟩]) (ret))))
def r_impl_Graph_edges : List ARes := [.tmp 2]
theorem k_impl_Graph_edges : acLin Go.Proofs.Tryd.prog 55 1 (inQ [64] []) [] = some (c_impl_Graph_edges, r_impl_Graph_edges) := by kernel_rfl
def c_spec_l01Pairs : AC := seq (reg [⟨(some 1), box 2 (t 0), none⟩, ⟨(some 2), mv (c (.sl [] true)), none⟩]) (seq (reg [⟨(some 6), bsl 2 0 [.int .i64 0, .int .i64 0] [], none⟩, ⟨(some 3), mv (t 6), none⟩]) (seq (seq (reg [⟨(some 4), mv (c (.int .i64 1)), none⟩]) (block 0 (loop (seq (seq (reg [⟨(some 7), mv (t 4), none⟩, ⟨(some 8), fad (t 1) 0, none⟩, ⟨(some 9), ld (t 8) 1 false, none⟩, ⟨(some 10), bin .lss (t 7) (t 9), none⟩]) (cond (t 10) (skip) (exit 0))) (seq (block 1 (seq (reg [⟨(some 5), mv (c (.int .i64 0)), none⟩]) (block 2 (loop (seq (seq (reg [⟨(some 13), mv (t 5), none⟩, ⟨(some 14), mv (t 4), none⟩, ⟨(some 15), bin .lss (t 13) (t 14), none⟩]) (cond (t 15) (skip) (exit 2))) (seq (block 3 (seq (reg [⟨(some 18), ld (t 1) 2 true, none⟩, ⟨(some 19), mv (t 5), none⟩, ⟨(some 20), mv (t 4), none⟩, ⟨(some 21), callq (c (.fn 27 [])) [t 18, t 19, t 20], none⟩]) (cond (t 21) (reg [⟨(some 22), mv (t 3), none⟩, ⟨(some 23), mv (t 5), none⟩, ⟨(some 24), mv (t 4), none⟩, ⟨(some 25), bld [.int .i64 0, .int .i64 0] [(0, 1, t 23), (1, 1, t 24)], none⟩, ⟨(some 26), bsl 2 1 [.int .i64 0, .int .i64 0] [(0, t 25)], none⟩, ⟨(some 27), app 2 16 (t 22) (t 26), none⟩, ⟨(some 3), mv (t 27), none⟩]) (skip)))) (reg [⟨(some 16), mv (t 5), none⟩, ⟨(some 17), bin .add (t 16) (c (.int .i64 1)), none⟩, ⟨(some 5), mv (t 17), none⟩]))))))) (reg [⟨(some 11), mv (t 4), none⟩, ⟨(some 12), bin .add (t 11) (c (.int .i64 1)), none⟩, ⟨(some 4), mv (t 12), none⟩])))))) (seq (reg [⟨(some 28), mv (t 3), none⟩, ⟨(some 2), mv (t 28), none⟩]) (ret))))
def r_spec_l01Pairs : List ARes := [.tmp 2]
theorem k_spec_l01Pairs : acLin Go.Proofs.Tryd.prog 26 1 (inQ [27] []) [] = some (c_spec_l01Pairs, r_spec_l01Pairs) := by kernel_rfl
def c_impl_Graph_text : AC := seq (reg [⟨(some 1), box 2 (t 0), none⟩, ⟨(some 2), mv (c (.str ⟨#[]⟩)), none⟩]) (seq (reg [⟨(some 6), fad (t 1) 0, none⟩, ⟨(some 7), ld (t 6) 1 false, none⟩, ⟨(some 8), callq (c (.fn 39 [])) [t 7], none⟩, ⟨(some 9), bin .add (c (.str ⟨#[103, 114, 97, 112, 104, 32]⟩)) (t 8), none⟩, ⟨(some 3), mv (t 9), none⟩]) (seq (seq (reg [⟨(some 10), ld (t 1) 2 true, none⟩, ⟨(some 11), calle (c (.fn 55 [])) [t 10] [], none⟩, ⟨(some 12), len (t 11), none⟩, ⟨(some 13), mv (c (.int .i64 0)), none⟩]) (block 0 (loop (seq (reg [⟨(some 14), bin .lss (t 13) (t 12), none⟩]) (seq (cond (t 14) (skip) (exit 0)) (seq (block 1 (seq (reg [⟨(some 15), iad 2 (t 11) (t 13), none⟩, ⟨(some 16), ld (t 15) 2 true, none⟩, ⟨(some 5), alloc [.int .i64 0, .int .i64 0], none⟩, ⟨none, st (t 5) 2 (t 16), none⟩]) (reg [⟨(some 17), mv (t 3), none⟩, ⟨(some 18), fad (t 5) 0, none⟩, ⟨(some 19), ld (t 18) 1 false, none⟩, ⟨(some 20), callq (c (.fn 39 [])) [t 19], none⟩, ⟨(some 21), bin .add (c (.str ⟨#[32]⟩)) (t 20), none⟩, ⟨(some 22), bin .add (t 21) (c (.str ⟨#[45]⟩)), none⟩, ⟨(some 23), fad (t 5) 1, none⟩, ⟨(some 24), ld (t 23) 1 false, none⟩, ⟨(some 25), callq (c (.fn 39 [])) [t 24], none⟩, ⟨(some 26), bin .add (t 22) (t 25), none⟩, ⟨(some 27), bin .add (t 17) (t 26), none⟩, ⟨(some 3), mv (t 27), none⟩]))) (reg [⟨(some 28), bin .add (t 13) (c (.int .i64 1)), none⟩, ⟨(some 13), mv (t 28), none⟩]))))))) (seq (reg [⟨(some 29), mv (t 3), none⟩, ⟨(some 2), mv (t 29), none⟩]) (ret))))
def r_impl_Graph_text : List ARes := [.tmp 2]
theorem k_impl_Graph_text : acLin Go.Proofs.Tryd.prog 37 1 (inQ [39] [55]) [⟨false, none, [], [], none⟩, ⟨false, none, [], [], none⟩, ⟨false, none, [], [], none⟩, ⟨false, none, [], [], none⟩, ⟨false, none, [], [], none⟩, ⟨false, none, [], [], none⟩, ⟨false, some [0, 1, 2, 3, 4, 5, 6, 7, 8, 9, 10, 11], [], [], none⟩] = some (c_impl_Graph_text, r_impl_Graph_text) := by kernel_rfl
def c_spec_GraphText : AC := seq (reg [⟨(some 1), box 2 (t 0), none⟩, ⟨(some 2), mv (c (.str ⟨#[]⟩)), none⟩]) (seq (seq (reg [⟨(some 6), ld (t 1) 2 true, none⟩, ⟨(some 7), callq (c (.fn 21 [])) [t 6], none⟩, ⟨(some 8), un .not (t 7), none⟩]) (cond (t 8) (seq (reg [⟨(some 2), mv (c (.str ⟨#[]⟩)), none⟩]) (ret)) (skip))) (seq (reg [⟨(some 9), fad (t 1) 0, none⟩, ⟨(some 10), ld (t 9) 1 false, none⟩, ⟨(some 11), callq (c (.fn 13 [])) [t 10], none⟩, ⟨(some 12), bin .add (c (.str ⟨#[103, 114, 97, 112, 104, 32]⟩)) (t 11), none⟩, ⟨(some 3), mv (t 12), none⟩]) (seq (reg [⟨(some 13), ld (t 1) 2 true, none⟩, ⟨(some 14), calle (c (.fn 26 [])) [t 13] [], none⟩, ⟨(some 4), mv (t 14), none⟩]) (seq (seq (reg [⟨(some 5), mv (c (.int .i64 0)), none⟩]) (block 0 (loop (seq (seq (reg [⟨(some 15), mv (t 5), none⟩, ⟨(some 16), mv (t 4), none⟩, ⟨(some 17), len (t 16), none⟩, ⟨(some 18), bin .lss (t 15) (t 17), none⟩]) (cond (t 18) (skip) (exit 0))) (seq (block 1 (reg [⟨(some 21), mv (t 3), none⟩, ⟨(some 22), mv (t 4), none⟩, ⟨(some 23), mv (t 5), none⟩, ⟨(some 24), iad 2 (t 22) (t 23), none⟩, ⟨(some 25), fad (t 24) 0, none⟩, ⟨(some 26), ld (t 25) 1 false, none⟩, ⟨(some 27), callq (c (.fn 13 [])) [t 26], none⟩, ⟨(some 28), bin .add (c (.str ⟨#[32]⟩)) (t 27), none⟩, ⟨(some 29), bin .add (t 28) (c (.str ⟨#[45]⟩)), none⟩, ⟨(some 30), mv (t 4), none⟩, ⟨(some 31), mv (t 5), none⟩, ⟨(some 32), iad 2 (t 30) (t 31), none⟩, ⟨(some 33), fad (t 32) 1, none⟩, ⟨(some 34), ld (t 33) 1 false, none⟩, ⟨(some 35), callq (c (.fn 13 [])) [t 34], none⟩, ⟨(some 36), bin .add (t 29) (t 35), none⟩, ⟨(some 37), bin .add (t 21) (t 36), none⟩, ⟨(some 3), mv (t 37), none⟩])) (reg [⟨(some 19), mv (t 5), none⟩, ⟨(some 20), bin .add (t 19) (c (.int .i64 1)), none⟩, ⟨(some 5), mv (t 20), none⟩])))))) (seq (reg [⟨(some 38), mv (t 3), none⟩, ⟨(some 2), mv (t 38), none⟩]) (ret))))))
def r_spec_GraphText : List ARes := [.tmp 2]
theorem k_spec_GraphText : acLin Go.Proofs.Tryd.prog 11 1 (inQ [13, 21] [26]) [⟨false, none, [], [], none⟩, ⟨false, none, [], [], none⟩, ⟨false, none, [], [], none⟩, ⟨false, none, [], [], none⟩, ⟨false, none, [], [], none⟩, ⟨false, none, [], [], none⟩, ⟨false, none, [], [], none⟩, ⟨false, none, [], [], none⟩, ⟨false, none, [], [], none⟩, ⟨false, some [0, 1, 2, 3, 4, 5, 6, 7, 8, 9, 10, 11, 12, 13, 14, 15, 16, 17], [], [], none⟩] = some (c_spec_GraphText, r_spec_GraphText) := by kernel_rfl
end Go.Proofs.YtlglgcmpeabdnaaDoorAi
end

section
/- Contracts: the pairs of a graph. -/
namespace Go.Proofs.YtlglgcmpeabdnaaDoorAi
open Go Go.RowKit
set_option linter.unusedVariables false
set_option linter.unusedSimpArgs false
set_option maxRecDepth 20000

def prE (e : Int) (j k : Nat) : List Fr := ((List.range k).filter fun (i : Nat) => hasB e i j).map fun (i : Nat) => ⟨(i : Int), (j : Int)⟩
theorem prE_zero (e : Int) (j : Nat) : prE e j 0 = [] := rfl
theorem prE_true {e : Int} {j k : Nat} (h : hasB e k j = true) : prE e j (k + 1) = prE e j k ++ [⟨(k : Int), (j : Int)⟩] := by
  unfold prE; rw [List.range_succ, List.filter_append, List.map_append]; simp [h]
theorem prE_false {e : Int} {j k : Nat} (h : hasB e k j = false) : prE e j (k + 1) = prE e j k := by
  unfold prE; rw [List.range_succ, List.filter_append, List.map_append]; simp [h]
def pairsE (e : Int) : Nat → List Fr
  | 0 => []
  | j + 1 => pairsE e j ++ prE e j j
theorem prE_len (e : Int) (j k : Nat) : (prE e j k).length ≤ k := by
  unfold prE; rw [List.length_map]; exact Nat.le_trans (List.length_filter_le _ _) (by simp)
theorem pairsE_len (e : Int) : ∀ j, (pairsE e j).length ≤ j * j
  | 0 => Nat.le_refl _
  | j + 1 => by
    have h1 := pairsE_len e j
    have h2 := prE_len e j j
    have h3 : (j + 1) * (j + 1) = j * j + j + j + 1 := by rw [Nat.add_mul, Nat.mul_add]; omega
    rw [pairsE, List.length_append, h3]; omega
def lvE (N : Nat) (L : List Fr) : AV := if L = [] then .sl [] true else .ref N 2 0 L.length .full
def obE (L : List Fr) : List (Option (List AV)) := if L = [] then [] else [some (flatA (frsA L))]
theorem lvE_nil (N : Nat) : lvE N [] = .sl [] true := rfl
theorem obE_nil : obE [] = [] := rfl
theorem lvE_cons {N : Nat} {L : List Fr} (h : L ≠ []) : lvE N L = .ref N 2 0 L.length .full := if_neg h
theorem obE_cons {L : List Fr} (h : L ≠ []) : obE L = [some (flatA (frsA L))] := if_neg h
theorem frE_snoc (L : List Fr) (p q : Int) : flatA (frsA L) ++ [.int .i64 p, .int .i64 q] = flatA (frsA (L ++ [⟨p, q⟩])) := by
  rw [flatA_append]; rfl
theorem obE_inj (f : Nat → Nat) (L : List Fr) : injB f (obE L).length = true := by
  by_cases hL : L = []
  · rw [hL]; rfl
  · rw [obE_cons hL]; rfl
theorem lvE_lt (N : Nat) (L : List Fr) : AV.lt ((obE L).length + N) (lvE N L) = true := by
  by_cases hL : L = []
  · rw [hL, lvE_nil]; rfl
  · rw [obE_cons hL, lvE_cons hL]; simp
theorem lvE_lt0 (L : List Fr) : AV.lt (obE L).length (lvE 0 L) = true := lvE_lt 0 L
def pairsR (e : Int) (n : Nat) : AV × List (Option (List AV)) := (lvE 0 (pairsE e n), obE (pairsE e n))
noncomputable def sp_edges : List AV → Option (AV × List (Option (List AV))) := pf (ι := (Nat) × (Int)) (α := AV × List (Option (List AV))) (fun ⟨n, e⟩ => n ≤ 5 ∧ 0 ≤ e ∧ e ≤ 4294967295) (fun ⟨n, e⟩ => [.agg [.int .i64 n, .int .u32 e]]) (fun ⟨n, e⟩ => pairsR e n)
theorem sp_edges_eq (n : Nat) (e : Int) (h : n ≤ 5 ∧ 0 ≤ e ∧ e ≤ 4294967295) : sp_edges [.agg [.int .i64 n, .int .u32 e]] = some (pairsR e n) := by
  unfold sp_edges
  exact pf_eq (ι := (Nat) × (Int)) (α := AV × List (Option (List AV))) (n, e) h (by rintro ⟨n', e'⟩ _ e; simp_all [Int.natCast_inj])
def eoSt (n : Nat) (e : Int) (j : Nat) : St := ⟨tl [(1, .ptr 0 0), (3, lvE 1 (pairsE e j)), (8, .int .i64 n), (9, .int .i64 j)], ⟨some [.int .i64 n, .int .u32 e] :: obE (pairsE e j)⟩⟩
def eiSt (n : Nat) (e : Int) (j : Nat) (i : Nat) : St := ⟨tl [(1, .ptr 0 0), (3, lvE 1 (pairsE e j ++ prE e j i)), (4, .int .i64 j), (8, .int .i64 n), (9, .int .i64 j), (12, .int .i64 j), (13, .int .i64 i)], ⟨some [.int .i64 n, .int .u32 e] :: obE (pairsE e j ++ prE e j i)⟩⟩
theorem n_impl_Graph_edges : QN PP 55 sp_edges := by
  refine QN_pf (fun i h => ?_) fun i h => ?_
  · obtain ⟨n, e⟩ := i; first | rfl | simp
  obtain ⟨n, e⟩ := i
  replace h : n ≤ 5 ∧ 0 ≤ e ∧ e ≤ 4294967295 := h
  show T PP 55 [.agg [.int .i64 n, .int .u32 e]] .nil fun r' A' => r' = ((pairsR e n : AV × List (Option (List AV)))).1 ∧ A' = ⟨((pairsR e n : AV × List (Option (List AV)))).2⟩
  unfold pairsR
  refine H_code (Quiet.q1 q_impl_Graph_has Quiet.nil) hmix k_impl_Graph_edges rfl (fun _ => 1) (by simp [AHeap.n, AHeap.nil]) (by intro b hb; simp [AHeap.n, AHeap.nil] at hb <;> subst hb <;> rfl) (obE_inj _ _) (lvE_lt0 _) ?_
  simp -dsimp -implicitDefEqProofs [c_impl_Graph_edges, r_impl_Graph_edges]
  refine wpLoop_st (eoSt n e) (fun j => j ≤ n) (fun j => n - j) 0 (by omega) (Sub.keep (by simp [eoSt]) (by simp [hsub, eoSt, pairsE, obE_nil]) (by simp [eoSt, pairsE, lvE_nil])) ?_
  intro j hj
  simp -dsimp -implicitDefEqProofs [eoSt]
  refine brW_of (fun h => ?_) (fun h => ?_) <;> simp only [decide_eq_true_eq, decide_eq_false_iff_not] at h
  · have hwx := wrapNat (i := j) (by omega)
    have hul := pairsE_len e j
    have hjj : j * j ≤ 16 := Nat.mul_le_mul (by omega : j ≤ 4) (by omega : j ≤ 4)
    simp -dsimp -implicitDefEqProofs
    refine wpLoop_st (eiSt n e j) (fun i => i ≤ j) (fun i => j - i) 0 (by omega) (Sub.keep (by simp [eiSt, prE_zero]) (by by_cases hL : pairsE e j = [] <;> simp [hsub, eiSt, prE_zero, hL, obE_nil, obE_cons]) (by simp [eiSt, prE_zero, lvE_lt])) ?_
    intro i hi
    have hrl := prE_len e j i
    simp -dsimp -implicitDefEqProofs [eiSt]
    refine brW_of (fun h2 => ?_) (fun h2 => ?_) <;> simp only [decide_eq_true_eq, decide_eq_false_iff_not] at h2
    · have hwi := wrapNat (i := i) (by omega)
      have hb := sp_has_eq n e i j ⟨⟨by omega, by omega⟩, by unfold vx; omega⟩
      cases hv : hasB e i j with
      | true =>
        have e1 := prE_true (e := e) (j := j) (k := i) hv
        have e2 := frE_snoc (pairsE e j ++ prE e j i) i j
        have e4 : pairsE e j ++ prE e j (i + 1) = (pairsE e j ++ prE e j i) ++ [⟨(i : Int), (j : Int)⟩] := by rw [e1, List.append_assoc]
        have hLl : (pairsE e j ++ prE e j i).length ≤ 20 := by rw [List.length_append]; omega
        rw [hv] at hb
        by_cases hL : pairsE e j ++ prE e j i = []
        · rw [hL] at e4
          have l1 : 1 * 17 ≤ mostBytes := by decide
          rw [hL]
          simp -dsimp -implicitDefEqProofs [hb, hwi, lvE_nil, obE_nil, l1]
          exact .mk (i + 1) (by omega) (by omega) (Sub.mk' (fun b => if b = 1 then 2 else b) (by simp) (by intro b hb; simp at hb <;> omega) (by show injB _ (some _ :: obE (pairsE e j ++ prE e j (i + 1))).length = true; rw [e4, obE_cons (by simp)]; rfl) (by simp [hsub, eiSt, e4, obE, flatA_cons]) (by simp [eiSt, e4, lvE, obE, hwi]))
        · generalize hL2 : pairsE e j ++ prE e j (i + 1) = L2 at *
          generalize pairsE e j ++ prE e j i = L at *
          have l1 : (L.length + 1) * 17 ≤ mostBytes := by simp only [mostBytes]; omega
          have l2 : ¬ ((L.length + 1) * 2 ≤ L.length * 2) := by omega
          have l3 : (flatA (frsA L)).take (L.length * 2) = flatA (frsA L) := List.take_of_length_le (by simp)
          have e5 : L2 ≠ [] := by rw [e4]; simp
          simp -dsimp -implicitDefEqProofs [hb, hwi, l1, l2, l3, e2, lvE_cons hL, obE_cons hL]
          exact .mk (i + 1) (by omega) (by omega) (Sub.mk' (fun b => if b = 1 then 3 else b) (by simp) (by intro b hb; simp at hb <;> omega) (by show injB _ (some _ :: obE (pairsE e j ++ prE e j (i + 1))).length = true; rw [hL2, obE_cons e5]; rfl) (by simp [hsub, eiSt, hL2, e4, obE_cons]) (by simp [eiSt, hL2, e4, lvE_cons, obE_cons, hwi]))
      | false =>
        have e1 := prE_false (e := e) (j := j) (k := i) hv
        rw [hv] at hb
        simp -dsimp -implicitDefEqProofs [hb, hwi]
        exact .mk (i + 1) (by omega) (by omega) (Sub.keep (by simp [eiSt]) (by by_cases hL : pairsE e j ++ prE e j i = [] <;> simp [hsub, eiSt, e1, hL, obE_nil, obE_cons]) (by simp [eiSt, e1, hwi, lvE_lt]))
    · obtain rfl : i = j := by omega
      simp -dsimp -implicitDefEqProofs [hwx]
      exact .mk (i + 1) (by omega) (by omega) (Sub.keep (by simp [eoSt]) (by by_cases hL : pairsE e i ++ prE e i i = [] <;> simp [hsub, eoSt, pairsE, hL, obE_nil, obE_cons]) (by simp [eoSt, pairsE, hwx, lvE_lt]))
  · obtain rfl : j = n := by omega
    by_cases hL : pairsE e j = []
    · simp -dsimp -implicitDefEqProofs [hsub, hL, lvE_nil, obE_nil]
    · simp -dsimp -implicitDefEqProofs [hsub, lvE_cons hL, obE_cons hL]
def soSt (n : Nat) (e : Int) (j : Nat) : St := ⟨tl [(1, .ptr 0 0), (3, lvE 1 (pairsE e (j + 1))), (4, .int .i64 ((j : Int) + 1))], ⟨some [.int .i64 n, .int .u32 e] :: obE (pairsE e (j + 1))⟩⟩
def siSt (n : Nat) (e : Int) (j : Nat) (i : Nat) : St := ⟨tl [(1, .ptr 0 0), (3, lvE 1 (pairsE e (j + 1) ++ prE e (j + 1) i)), (4, .int .i64 ((j : Int) + 1)), (5, .int .i64 i)], ⟨some [.int .i64 n, .int .u32 e] :: obE (pairsE e (j + 1) ++ prE e (j + 1) i)⟩⟩
theorem n_spec_l01Pairs : QN PP 26 sp_edges := by
  refine QN_pf (fun i h => ?_) fun i h => ?_
  · obtain ⟨n, e⟩ := i; first | rfl | simp
  obtain ⟨n, e⟩ := i
  replace h : n ≤ 5 ∧ 0 ≤ e ∧ e ≤ 4294967295 := h
  show T PP 26 [.agg [.int .i64 n, .int .u32 e]] .nil fun r' A' => r' = ((pairsR e n : AV × List (Option (List AV)))).1 ∧ A' = ⟨((pairsR e n : AV × List (Option (List AV)))).2⟩
  unfold pairsR
  refine H_code (Quiet.q1 q_spec_l01Joined Quiet.nil) hmix k_spec_l01Pairs rfl (fun _ => 1) (by simp [AHeap.n, AHeap.nil]) (by intro b hb; simp [AHeap.n, AHeap.nil] at hb <;> subst hb <;> rfl) (obE_inj _ _) (lvE_lt0 _) ?_
  have p1 : pairsE e 1 = [] := rfl
  simp -dsimp -implicitDefEqProofs [c_spec_l01Pairs, r_spec_l01Pairs]
  refine wpLoop_st (soSt n e) (fun j => j = 0 ∨ j + 1 ≤ n) (fun j => n - j) 0 (.inl rfl) (Sub.keep (by simp [soSt]) (by simp [hsub, soSt, p1, obE_nil]) (by simp [soSt, p1, lvE_nil])) ?_
  intro j hj
  simp -dsimp -implicitDefEqProofs [soSt]
  refine brW_of (fun h => ?_) (fun h => ?_) <;> simp only [decide_eq_true_eq, decide_eq_false_iff_not] at h
  · have hwx : IntKind.wrap .i64 ((j : Int) + 1 + 1) = (j : Int) + 1 + 1 := wrapI64 (by omega) (by omega)
    have hul := pairsE_len e (j + 1)
    have hjj : (j + 1) * (j + 1) ≤ 16 := Nat.mul_le_mul (by omega : j + 1 ≤ 4) (by omega : j + 1 ≤ 4)
    simp -dsimp -implicitDefEqProofs
    refine wpLoop_st (siSt n e j) (fun i => i ≤ j + 1) (fun i => j + 1 - i) 0 (by omega) (Sub.keep (by simp [siSt, prE_zero]) (by by_cases hL : pairsE e (j + 1) = [] <;> simp [hsub, siSt, prE_zero, hL, obE_nil, obE_cons]) (by simp [siSt, prE_zero, lvE_lt])) ?_
    intro i hi
    have hrl := prE_len e (j + 1) i
    simp -dsimp -implicitDefEqProofs [siSt]
    refine brW_of (fun h2 => ?_) (fun h2 => ?_) <;> simp only [decide_eq_true_eq, decide_eq_false_iff_not] at h2
    · have hwi := wrapNat (i := i) (by omega)
      have hb := sp_l01Joined_eq n e i ((j : Int) + 1) ⟨⟨by omega, by omega⟩, ⟨by omega, by omega⟩, by omega, by omega⟩
      have hne : decide ((i : Int) ≠ (j : Int) + 1) = true := decide_eq_true (by omega)
      cases hv : hasB e i ((j + 1 : Nat) : Int) with
      | true =>
        have hv' : joinedB e i ((j : Int) + 1) = true := by unfold joinedB; rw [hne]; exact hv
        have e1 := prE_true (e := e) (j := j + 1) (k := i) hv
        have e2 := frE_snoc (pairsE e (j + 1) ++ prE e (j + 1) i) i ((j : Int) + 1)
        have e4 : pairsE e (j + 1) ++ prE e (j + 1) (i + 1) = (pairsE e (j + 1) ++ prE e (j + 1) i) ++ [⟨(i : Int), (j : Int) + 1⟩] := by rw [e1, List.append_assoc]; rfl
        have hLl : (pairsE e (j + 1) ++ prE e (j + 1) i).length ≤ 20 := by rw [List.length_append]; omega
        rw [hv'] at hb
        by_cases hL : pairsE e (j + 1) ++ prE e (j + 1) i = []
        · rw [hL] at e4
          have l1 : 1 * 17 ≤ mostBytes := by decide
          rw [hL]
          simp -dsimp -implicitDefEqProofs [hb, hwi, lvE_nil, obE_nil, l1]
          exact .mk (i + 1) (by omega) (by omega) (Sub.mk' (fun b => if b = 1 then 2 else b) (by simp) (by intro b hb; simp at hb <;> omega) (by show injB _ (some _ :: obE (pairsE e (j + 1) ++ prE e (j + 1) (i + 1))).length = true; rw [e4, obE_cons (by simp)]; rfl) (by simp [hsub, siSt, e4, obE, flatA_cons]) (by simp [siSt, e4, lvE, obE, hwi]))
        · generalize hL2 : pairsE e (j + 1) ++ prE e (j + 1) (i + 1) = L2 at *
          generalize pairsE e (j + 1) ++ prE e (j + 1) i = L at *
          have l1 : (L.length + 1) * 17 ≤ mostBytes := by simp only [mostBytes]; omega
          have l2 : ¬ ((L.length + 1) * 2 ≤ L.length * 2) := by omega
          have l3 : (flatA (frsA L)).take (L.length * 2) = flatA (frsA L) := List.take_of_length_le (by simp)
          have e5 : L2 ≠ [] := by rw [e4]; simp
          simp -dsimp -implicitDefEqProofs [hb, hwi, l1, l2, l3, e2, lvE_cons hL, obE_cons hL]
          exact .mk (i + 1) (by omega) (by omega) (Sub.mk' (fun b => if b = 1 then 3 else b) (by simp) (by intro b hb; simp at hb <;> omega) (by show injB _ (some _ :: obE (pairsE e (j + 1) ++ prE e (j + 1) (i + 1))).length = true; rw [hL2, obE_cons e5]; rfl) (by simp [hsub, siSt, hL2, e4, obE_cons]) (by simp [siSt, hL2, e4, lvE_cons, obE_cons, hwi]))
      | false =>
        have hv' : joinedB e i ((j : Int) + 1) = false := by unfold joinedB; rw [hne]; exact hv
        have e1 := prE_false (e := e) (j := j + 1) (k := i) hv
        rw [hv'] at hb
        simp -dsimp -implicitDefEqProofs [hb, hwi]
        exact .mk (i + 1) (by omega) (by omega) (Sub.keep (by simp [siSt]) (by by_cases hL : pairsE e (j + 1) ++ prE e (j + 1) i = [] <;> simp [hsub, siSt, e1, hL, obE_nil, obE_cons]) (by simp [siSt, e1, hwi, lvE_lt]))
    · obtain rfl : i = j + 1 := by omega
      have e6 : pairsE e (j + 1) ++ prE e (j + 1) (j + 1) = pairsE e (j + 1 + 1) := rfl
      rw [e6]
      simp -dsimp -implicitDefEqProofs [hwx]
      exact .mk (j + 1) (by omega) (by omega) (Sub.keep (by simp [soSt]) (by by_cases hL : pairsE e (j + 1 + 1) = [] <;> simp [hsub, soSt, hL, obE_nil, obE_cons]) (by simp [soSt, hwx, lvE_lt]))
  · have e7 : pairsE e (j + 1) = pairsE e n := by
      rcases hj with rfl | hj
      · have : n = 0 ∨ n = 1 := by omega
        rcases this with rfl | rfl <;> rfl
      · rw [show j + 1 = n by omega]
    rw [e7]
    by_cases hL : pairsE e n = []
    · simp -dsimp -implicitDefEqProofs [hsub, hL, lvE_nil, obE_nil]
    · simp -dsimp -implicitDefEqProofs [hsub, lvE_cons hL, obE_cons hL]
end Go.Proofs.YtlglgcmpeabdnaaDoorAi
end

section
/- Contracts: numerals, texts of fractions. -/
namespace Go.Proofs.YtlglgcmpeabdnaaDoorAi
open Go Go.RowKit
set_option linter.unusedVariables false
set_option linter.unusedSimpArgs false
set_option maxRecDepth 20000

@[simp] theorem ba_size (a : Array UInt8) : (ByteArray.mk a).size = a.size := rfl
/-- The numeral of a number. -/
def decB (n : Int) : ByteArray := ⟨(Go.Lib.itoa n).toArray⟩
theorem decB_small {n : Int} (h0 : 0 ≤ n) (h1 : n < 10) : decB n = ⟨[UInt8.ofNat (48 + n.toNat)].toArray⟩ := by
  unfold decB Go.Lib.itoa
  rw [if_neg (by omega), Go.Lib.decDigits, dif_pos (by omega)]
theorem decB_step {n : Int} (h : 10 ≤ n) : decB n = decB (n.tdiv 10) ++ ⟨[UInt8.ofNat (48 + (n.tmod 10).toNat)].toArray⟩ := by
  have e1 : (n.tdiv 10).toNat = n.toNat / 10 := by
    rw [Int.tdiv_eq_ediv_of_nonneg (by omega)]; omega
  have e2 : (n.tmod 10).toNat = n.toNat % 10 := by
    rw [Int.tmod_eq_emod_of_nonneg (by omega)]; omega
  unfold decB Go.Lib.itoa
  rw [if_neg (by omega), if_neg (by rw [Int.tdiv_eq_ediv_of_nonneg (by omega)]; omega), e1, e2, Go.Lib.decDigits, dif_neg (by omega)]
  apply ByteArray.ext
  simp
theorem decB_neg {n : Int} (h : n < 0) : decB n = ⟨[45].toArray⟩ ++ decB (n.natAbs : Int) := by
  unfold decB Go.Lib.itoa
  rw [if_pos h, if_neg (by omega)]
  apply ByteArray.ext
  simp
theorem nDig_le : ∀ (k u : Nat), u < 10 ^ (k + 1) → Go.Lib.nDigits u ≤ k + 1
  | 0, u, h => by rw [Go.Lib.nDigits_small (by simpa using h)]; omega
  | k + 1, u, h => by
    by_cases hu : u < 10
    · rw [Go.Lib.nDigits_small hu]; omega
    · rw [Go.Lib.nDigits_big hu]
      have := nDig_le k (u / 10) (by rw [Nat.pow_succ] at h; omega)
      omega
theorem decB_size (n : Int) (h0 : -9223372036854775808 ≤ n) (h1 : n ≤ 9223372036854775807) : (decB n).size ≤ 21 := by
  have hl : (Go.Lib.itoa n).length ≤ 21 := by
    unfold Go.Lib.itoa
    split
    · have := nDig_le 19 n.natAbs (by omega)
      rw [List.length_cons, Go.Lib.decDigits_length]; omega
    · have := nDig_le 19 n.toNat (by omega)
      rw [Go.Lib.decDigits_length]; omega
  unfold decB
  simpa [ByteArray.size] using hl

noncomputable def sp_decK (k : Nat) : List AV → Option AV := pf (ι := Int) (α := AV) (fun n => 0 ≤ n ∧ n < 10 ^ k ∧ n ≤ 9223372036854775807) (fun n => [.int .i64 n]) (fun n => .str (decB n))
theorem sp_decK_eq (k : Nat) (n : Int) (h : 0 ≤ n ∧ n < 10 ^ k ∧ n ≤ 9223372036854775807) : sp_decK k [.int .i64 n] = some (.str (decB n)) := by
  unfold sp_decK
  exact pf_eq (ι := Int) (α := AV) n h (by rintro n' _ e; simp_all)
theorem wrap_dig {d : Int} (h0 : 0 ≤ d) (h1 : d < 10) : IntKind.wrap .u8 (48 + d) = 48 + d := by
  simp [IntKind.wrap, IntKind.signed, IntKind.bits]; omega
theorem wrap_dig' {d : Int} (h0 : 0 ≤ d) (h1 : d < 10) : IntKind.wrap .i64 (48 + d) = 48 + d := by
  simp [IntKind.wrap, IntKind.signed, IntKind.bits]; omega
theorem q_decK : ∀ k, QP PP 13 (sp_decK k) := by
  intro k
  induction k with
  | zero =>
    refine QP_pf (fun n h => ?_) fun n h => ?_
    · exact ⟨by first | rfl | simp, by first | rfl | simp⟩
    replace h : 0 ≤ n ∧ n < 10 ^ 0 ∧ n ≤ 9223372036854775807 := h
    obtain rfl : n = 0 := by omega
    refine P_code Quiet.nil hmix k_spec_Decimal rfl ?_ ?_
    · first | rfl | simp
    show wpc 0 PP _ c_spec_Decimal (initSt [.int .i64 0] .nil) (endP r_spec_Decimal (.str (decB 0)))
    have w : IntKind.wrap .u8 48 = 48 := rfl
    have w' : IntKind.wrap .i64 48 = 48 := rfl
    rw [decB_small (by decide) (by decide)]
    simp -dsimp -implicitDefEqProofs [c_spec_Decimal, r_spec_Decimal, w, w']
  | succ k ih =>
    refine QP_pf (fun n h => ?_) fun n h => ?_
    · exact ⟨by first | rfl | simp, by first | rfl | simp⟩
    replace h : 0 ≤ n ∧ n < 10 ^ (k + 1) ∧ n ≤ 9223372036854775807 := h
    refine P_code (Quiet.q1 ih Quiet.nil) hmix k_spec_Decimal rfl ?_ ?_
    · first | rfl | simp
    show wpc 0 PP _ c_spec_Decimal (initSt [.int .i64 n] .nil) (endP r_spec_Decimal (.str (decB n)))
    by_cases hn : 10 ≤ n
    · have hb : decide (10 ≤ n) = true := decide_eq_true hn
      have em : 0 ≤ n.tmod 10 ∧ n.tmod 10 < 10 := by rw [Int.tmod_eq_emod_of_nonneg (by omega)]; omega
      have ed : 0 ≤ n.tdiv 10 ∧ n.tdiv 10 < 10 ^ k ∧ n.tdiv 10 ≤ 9223372036854775807 := by
        rw [Int.tdiv_eq_ediv_of_nonneg (by omega)]
        have : (10 : Int) ^ (k + 1) = 10 ^ k * 10 := Int.pow_succ ..
        omega
      have w := wrap_dig em.1 em.2
      have w' := wrap_dig' em.1 em.2
      have b1 : 0 ≤ 48 + n.tmod 10 := by omega
      have b2 : 48 + n.tmod 10 < 256 := by omega
      have b3 : (48 + n.tmod 10).toNat = 48 + (n.tmod 10).toNat := by omega
      have hc := sp_decK_eq k _ ed
      have hs := decB_size (n.tdiv 10) (by omega) (by omega)
      have wd : IntKind.wrap .i64 (n.tdiv 10) = n.tdiv 10 := by simp [IntKind.wrap, IntKind.signed, IntKind.bits]; omega
      have wm : IntKind.wrap .i64 (n.tmod 10) = n.tmod 10 := by simp [IntKind.wrap, IntKind.signed, IntKind.bits]; omega
      have hz : (decB (n.tdiv 10)).size + 1 ≤ 9223372036854775807 := by omega
      rw [decB_step hn]
      simp -dsimp -implicitDefEqProofs [c_spec_Decimal, r_spec_Decimal, hb, w, w', b1, b2, b3, hc, wd, wm, hz]
    · have hb : decide (10 ≤ n) = false := decide_eq_false hn
      have w := wrap_dig (d := n) (by omega) (by omega)
      have w' := wrap_dig' (d := n) (by omega) (by omega)
      have b1 : 0 ≤ 48 + n := by omega
      have b2 : 48 + n < 256 := by omega
      have b3 : (48 + n).toNat = 48 + n.toNat := by omega
      rw [decB_small (by omega) (by omega)]
      simp -dsimp -implicitDefEqProofs [c_spec_Decimal, r_spec_Decimal, hb, w, w', b1, b2, b3]
noncomputable def sp_decS : List AV → Option (AV) := pf (ι := (Int)) (α := AV) (fun n => 0 ≤ n ∧ n ≤ 9223372036854775807) (fun n => [.int .i64 n]) (fun n => .str (decB n))
theorem sp_decS_eq (n : Int) (h : 0 ≤ n ∧ n ≤ 9223372036854775807) : sp_decS [.int .i64 n] = some (.str (decB n)) := by
  unfold sp_decS
  exact pf_eq (ι := (Int)) (α := AV) n h (by rintro n' _ e; simp_all [Int.natCast_inj])
theorem q_spec_Decimal : QP PP 13 sp_decS := by
  intro args r e
  obtain ⟨n, h, rfl, rfl⟩ : ∃ n : Int, (0 ≤ n ∧ n ≤ 9223372036854775807) ∧ args = [.int .i64 n] ∧ r = .str (decB n) := by
    unfold sp_decS pf at e
    split at e
    · rename_i hx
      injection e with e
      refine ⟨Classical.choose hx, (Classical.choose_spec hx).1, ?_, e.symm⟩
      first | exact (Classical.choose_spec hx).2 | exact (Classical.choose_spec hx).2.symm
    · cases e
  exact q_decK 19 _ _ (sp_decK_eq 19 n ⟨h.1, by omega, h.2⟩)
end Go.Proofs.YtlglgcmpeabdnaaDoorAi
end

section
/- Contracts: the numeral of the program, texts of fractions. -/
namespace Go.Proofs.YtlglgcmpeabdnaaDoorAi
open Go Go.RowKit
set_option linter.unusedVariables false
set_option linter.unusedSimpArgs false
set_option maxRecDepth 20000

noncomputable def sp_formatI : List AV → Option (AV) := pf (ι := (Int)) (α := AV) (fun n => -9223372036854775808 ≤ n ∧ n ≤ 9223372036854775807) (fun n => [.int .i64 n, .int .i64 10]) (fun n => .str (decB n))
theorem sp_formatI_eq (n : Int) (h : -9223372036854775808 ≤ n ∧ n ≤ 9223372036854775807) : sp_formatI [.int .i64 n, .int .i64 10] = some (.str (decB n)) := by
  unfold sp_formatI
  exact pf_eq (ι := (Int)) (α := AV) n h (by rintro n' _ e; simp_all [Int.natCast_inj])
theorem below_grown' (w : World) (k : Nat) (os : Array Obj) : Below w.heap.size w (Go.Sort.grow (w.drewN k) os) :=
  ⟨rfl, rfl, rfl, by show w.heap.size ≤ (w.heap ++ os).size; rw [Array.size_append]; omega, fun j hj => by show (w.heap ++ os)[j]? = _; rw [Array.getElem?_append_left hj]⟩
theorem q_internal_strconv_FormatInt : QP PP 65 sp_formatI := by
  refine QP_pf (fun n h => ?_) fun n h => ?_
  · exact ⟨by first | rfl | simp, by first | rfl | simp⟩
  replace h : -9223372036854775808 ≤ n ∧ n ≤ 9223372036854775807 := h
  refine T.lib ⟨_, Tryd.func65, by kernel_rfl, by kernel_rfl⟩ (fun σ w vs hr hG => ?_) .nil
  obtain ⟨v1, us, rfl, h1, h2⟩ := hr.head
  obtain ⟨v2, us2, rfl, h3, h4⟩ := h2.head
  obtain rfl : us2 = [] := List.eq_nil_of_length_eq_zero h4.1.symm
  cases h1; cases h3
  refine (Tryd.internal_strconv_FormatInt_10 n h.1 h.2 w (hG.tab (by kernel_rfl))).mono ?_
  rintro e w' ⟨rfl, k, os, rfl⟩
  exact ⟨_, rfl, below_grown' w k os, .str _⟩
theorem q_strconv_FormatInt : QP PP 56 sp_formatI := by
  refine QP_pf (fun n h => ?_) fun n h => ?_
  · exact ⟨by first | rfl | simp, by first | rfl | simp⟩
  replace h : -9223372036854775808 ≤ n ∧ n ≤ 9223372036854775807 := h
  refine P_code (Quiet.q1 q_internal_strconv_FormatInt Quiet.nil) hmix k_strconv_FormatInt rfl ?_ ?_
  · first | rfl | simp
  show wpc 0 PP _ c_strconv_FormatInt (initSt [.int .i64 n, .int .i64 10] .nil) (endP r_strconv_FormatInt (.str (decB n)))
  simp -dsimp -implicitDefEqProofs [c_strconv_FormatInt, r_strconv_FormatInt, sp_formatI_eq n h]
noncomputable def sp_decimal : List AV → Option (AV) := pf (ι := (Int)) (α := AV) (fun n => -9223372036854775808 ≤ n ∧ n ≤ 9223372036854775807) (fun n => [.int .i64 n]) (fun n => .str (decB n))
theorem sp_decimal_eq (n : Int) (h : -9223372036854775808 ≤ n ∧ n ≤ 9223372036854775807) : sp_decimal [.int .i64 n] = some (.str (decB n)) := by
  unfold sp_decimal
  exact pf_eq (ι := (Int)) (α := AV) n h (by rintro n' _ e; simp_all [Int.natCast_inj])
theorem q_impl_decimal : QP PP 39 sp_decimal := by
  refine QP_pf (fun n h => ?_) fun n h => ?_
  · exact ⟨by first | rfl | simp, by first | rfl | simp⟩
  replace h : -9223372036854775808 ≤ n ∧ n ≤ 9223372036854775807 := h
  refine P_code (Quiet.q1 q_strconv_FormatInt Quiet.nil) hmix k_impl_decimal rfl ?_ ?_
  · first | rfl | simp
  show wpc 0 PP _ c_impl_decimal (initSt [.int .i64 n] .nil) (endP r_impl_decimal (.str (decB n)))
  simp -dsimp -implicitDefEqProofs [c_impl_decimal, r_impl_decimal, sp_formatI_eq n h]

def slashB : ByteArray := ⟨#[47]⟩
def noB : ByteArray := ⟨#[]⟩
def frT (p q : Int) : ByteArray := if q = 1 then decB p else decB p ++ slashB ++ decB q
noncomputable def sp_frText : List AV → Option (AV) := pf (ι := (Int) × (Int)) (α := AV) (fun ⟨p, q⟩ => (-9223372036854775808 ≤ p ∧ p ≤ 9223372036854775807) ∧ (-9223372036854775808 ≤ q ∧ q ≤ 9223372036854775807)) (fun ⟨p, q⟩ => [.agg [.int .i64 p, .int .i64 q]]) (fun ⟨p, q⟩ => .str (frT p q))
theorem sp_frText_eq (p q : Int) (h : (-9223372036854775808 ≤ p ∧ p ≤ 9223372036854775807) ∧ (-9223372036854775808 ≤ q ∧ q ≤ 9223372036854775807)) : sp_frText [.agg [.int .i64 p, .int .i64 q]] = some (.str (frT p q)) := by
  unfold sp_frText
  exact pf_eq (ι := (Int) × (Int)) (α := AV) (p, q) h (by rintro ⟨p', q'⟩ _ e; simp_all [Int.natCast_inj])
theorem q_impl_Fraction_text : QP PP 57 sp_frText := by
  refine QP_pf (fun i h => ?_) fun i h => ?_
  · obtain ⟨p, q⟩ := i; exact ⟨by first | rfl | simp, by first | rfl | simp⟩
  obtain ⟨p, q⟩ := i
  replace h : (-9223372036854775808 ≤ p ∧ p ≤ 9223372036854775807) ∧ (-9223372036854775808 ≤ q ∧ q ≤ 9223372036854775807) := h
  refine P_code (Quiet.q1 q_impl_decimal Quiet.nil) hmix k_impl_Fraction_text rfl ?_ ?_
  · first | rfl | simp
  show wpc 0 PP _ c_impl_Fraction_text (initSt [.agg [.int .i64 p, .int .i64 q]] .nil) (endP r_impl_Fraction_text (.str (frT p q)))
  have hp := sp_decimal_eq p h.1
  have hq := sp_decimal_eq q h.2
  have sp := decB_size p h.1.1 h.1.2
  have sq := decB_size q h.2.1 h.2.2
  by_cases hone : q = 1
  · subst hone
    simp -dsimp -implicitDefEqProofs [c_impl_Fraction_text, r_impl_Fraction_text, hp, frT]
  · have hb : (q == 1) = false := by simpa using hone
    have s1 : (decB p).size + 1 ≤ 9223372036854775807 := by omega
    have s2 : (decB p).size + 1 + (decB q).size ≤ 9223372036854775807 := by omega
    simp -dsimp -implicitDefEqProofs [c_impl_Fraction_text, r_impl_Fraction_text, hp, hq, hb, s1, s2, frT, hone, slashB]
end Go.Proofs.YtlglgcmpeabdnaaDoorAi
end

section
/- Contracts and law: FractionText. -/
namespace Go.Proofs.YtlglgcmpeabdnaaDoorAi
open Go Go.RowKit
set_option linter.unusedVariables false
set_option linter.unusedSimpArgs false
set_option maxRecDepth 20000

theorem frOk_bd {p q : Int} (h : frOk p q = true) : (-1000000000 ≤ p ∧ p ≤ 1000000000) ∧ (1 ≤ q ∧ q ≤ 1000000000) := by
  unfold frOk at h
  have := of_decide_eq_true h
  exact ⟨this.1, this.2.1⟩
def fracT (p q : Int) : ByteArray := if frOk p q = true then frT p q else noB
noncomputable def sp_fracText : List AV → Option (AV) := pf (ι := (Int) × (Int)) (α := AV) (fun ⟨p, q⟩ => True) (fun ⟨p, q⟩ => [.agg [.int .i64 p, .int .i64 q]]) (fun ⟨p, q⟩ => .str (fracT p q))
theorem sp_fracText_eq (p q : Int) : sp_fracText [.agg [.int .i64 p, .int .i64 q]] = some (.str (fracT p q)) := by
  unfold sp_fracText
  exact pf_eq (ι := (Int) × (Int)) (α := AV) (p, q) trivial (by rintro ⟨p', q'⟩ _ e; simp_all [Int.natCast_inj])
attribute [simp] sp_fracText_eq
theorem q_spec_FractionText : QP PP 14 sp_fracText := by
  refine QP_pf (fun i h => ?_) fun i h => ?_
  · obtain ⟨p, q⟩ := i; exact ⟨by first | rfl | simp, by first | rfl | simp⟩
  obtain ⟨p, q⟩ := i
  replace h : True := h
  refine P_code (Quiet.q1 q_spec_l02Ok (Quiet.q1 q_spec_l02Abs (Quiet.q1 q_spec_Decimal Quiet.nil))) hmix k_spec_FractionText rfl ?_ ?_
  · first | rfl | simp
  show wpc 0 PP _ c_spec_FractionText (initSt [.agg [.int .i64 p, .int .i64 q]] .nil) (endP r_spec_FractionText (.str (fracT p q)))
  cases hf : frOk p q with
  | false => simp -dsimp -implicitDefEqProofs [c_spec_FractionText, r_spec_FractionText, hf, fracT, noB]
  | true =>
    have hb := frOk_bd hf
    have ha := sp_size_eq p (by omega)
    have hd := sp_decS_eq p.natAbs (by omega)
    have hd2 := sp_decS_eq q (by omega)
    have s0 := decB_size p.natAbs (by omega) (by omega)
    have s2 := decB_size q (by omega) (by omega)
    have z1 : 1 + (decB p.natAbs).size ≤ 9223372036854775807 := by omega
    have z2 : 1 + (decB q).size ≤ 9223372036854775807 := by omega
    have z3 : (decB p.natAbs).size + (1 + (decB q).size) ≤ 9223372036854775807 := by omega
    have z4 : 1 + (decB p.natAbs).size + (1 + (decB q).size) ≤ 9223372036854775807 := by omega
    by_cases hp : p < 0
    · by_cases hq : q = 1
      · subst hq
        simp -dsimp -implicitDefEqProofs [c_spec_FractionText, r_spec_FractionText, hf, fracT, frT, ha, hd, hp, decB_neg hp, z1]
      · have hqb : (q != 1) = true := by simpa using hq
        simp -dsimp -implicitDefEqProofs [c_spec_FractionText, r_spec_FractionText, hf, fracT, frT, ha, hd, hd2, hp, hq, hqb, decB_neg hp, z1, z2, z4, slashB, ByteArray.append_assoc]
    · have e0 : ((p.natAbs : Nat) : Int) = p := by omega
      rw [e0] at hd s0 z1 z3 z4 ha
      by_cases hq : q = 1
      · subst hq
        simp -dsimp -implicitDefEqProofs [c_spec_FractionText, r_spec_FractionText, hf, fracT, frT, ha, hd, hp, z1]
      · have hqb : (q != 1) = true := by simpa using hq
        simp -dsimp -implicitDefEqProofs [c_spec_FractionText, r_spec_FractionText, hf, fracT, frT, ha, hd, hd2, hp, hq, hqb, z1, z2, z3, slashB, ByteArray.append_assoc]
theorem beq_ba (a : ByteArray) : (a == a) = true := by show (a.data == a.data) = true; simp
theorem bne_ba (a : ByteArray) : (a != a) = false := by unfold bne; rw [beq_ba]; rfl
end Go.Proofs.YtlglgcmpeabdnaaDoorAi
end

section
/- Contracts and laws: GraphText, FlagText. -/
namespace Go.Proofs.YtlglgcmpeabdnaaDoorAi
open Go Go.RowKit
set_option linter.unusedVariables false
set_option linter.unusedSimpArgs false
set_option maxRecDepth 20000

theorem getF0 (l : List Fr) (i : Nat) (h : i < l.length) (h2 : i * 2 < (flatA (frsA l)).length) : (flatA (frsA l))[i * 2] = .int .i64 l[i].p := by
  have := get_fr0 l i h
  rw [List.getElem?_eq_getElem h2] at this
  exact Option.some.inj this
theorem getF1 (l : List Fr) (i : Nat) (h : i < l.length) (h2 : i * 2 + 1 < (flatA (frsA l)).length) : (flatA (frsA l))[i * 2 + 1] = .int .i64 l[i].q := by
  have := get_fr1 l i h
  rw [List.getElem?_eq_getElem h2] at this
  exact Option.some.inj this
def sepB : ByteArray := ⟨#[32]⟩
def dashB : ByteArray := ⟨#[45]⟩
def graphB : ByteArray := ⟨#[103, 114, 97, 112, 104, 32]⟩
def edgeT (p q : Int) : ByteArray := sepB ++ decB p ++ dashB ++ decB q
def edT (w : ByteArray) (L : List Fr) : ByteArray := L.foldl (fun w x => w ++ edgeT x.p x.q) w
theorem edT_snoc (w : ByteArray) (L : List Fr) (i : Nat) (h : i < L.length) : edT w (L.take (i + 1)) = edT w (L.take i) ++ edgeT L[i].p L[i].q := by
  rw [take_snoc L i h]; unfold edT; rw [List.foldl_append]; rfl
theorem edgeT_size {p q : Int} (hp : -9223372036854775808 ≤ p ∧ p ≤ 9223372036854775807) (hq : -9223372036854775808 ≤ q ∧ q ≤ 9223372036854775807) : (edgeT p q).size ≤ 44 := by
  have h1 := decB_size p hp.1 hp.2
  have h2 := decB_size q hq.1 hq.2
  have h3 : sepB.size = 1 := rfl
  have h4 : dashB.size = 1 := rfl
  unfold edgeT
  simp only [ByteArray.size_append]
  omega
theorem edT_size (w : ByteArray) (L : List Fr) (hL : ∀ x ∈ L, (0 ≤ x.p ∧ x.p < 5) ∧ (0 ≤ x.q ∧ x.q < 5)) : (edT w L).size ≤ w.size + L.length * 44 := by
  induction L generalizing w with
  | nil => simp [edT]
  | cons x L ih =>
    have hx := hL x (List.mem_cons_self ..)
    have h1 := ih (w ++ edgeT x.p x.q) fun y hy => hL y (List.mem_cons_of_mem _ hy)
    have h2 := edgeT_size (p := x.p) (q := x.q) (by omega) (by omega)
    show (edT (w ++ edgeT x.p x.q) L).size ≤ _
    rw [ByteArray.size_append] at h1
    rw [List.length_cons]
    omega
theorem prE_in {e : Int} {j k : Nat} (hj : j < 5) (hk : k ≤ 5) : ∀ x ∈ prE e j k, (0 ≤ x.p ∧ x.p < 5) ∧ (0 ≤ x.q ∧ x.q < 5) := by
  intro x hx
  unfold prE at hx
  obtain ⟨i, hi, rfl⟩ := List.mem_map.1 hx
  have := List.mem_range.1 (List.mem_filter.1 hi).1
  simp only
  omega
theorem pairsE_in (e : Int) : ∀ (j : Nat), j ≤ 5 → ∀ x ∈ pairsE e j, (0 ≤ x.p ∧ x.p < 5) ∧ (0 ≤ x.q ∧ x.q < 5)
  | 0, _ => by intro x hx; cases hx
  | j + 1, hj => by
    intro x hx
    rw [pairsE] at hx
    rcases List.mem_append.1 hx with hx | hx
    · exact pairsE_in e j (by omega) x hx
    · exact prE_in (by omega) (by omega) x hx
def grT (e : Int) (n : Nat) : ByteArray := edT (graphB ++ decB n) (pairsE e n)
theorem grT_len {e : Int} {n : Nat} (h : n ≤ 5) : (pairsE e n).length ≤ 25 := Nat.le_trans (pairsE_len e n) (Nat.mul_le_mul h h)
theorem edT_take {e : Int} {n : Nat} (h : n ≤ 5) (i : Nat) : (edT (graphB ++ decB n) ((pairsE e n).take i)).size ≤ 1200 := by
  have h1 := edT_size (graphB ++ decB n) ((pairsE e n).take i) fun x hx => pairsE_in e n h x (List.mem_of_mem_take hx)
  have h2 := grT_len (e := e) h
  have h3 : ((pairsE e n).take i).length ≤ (pairsE e n).length := by rw [List.length_take]; omega
  have h4 := decB_size n (by omega) (by omega)
  have h5 : graphB.size = 6 := rfl
  rw [ByteArray.size_append] at h1
  omega
noncomputable def sp_graphTx : List AV → Option (AV) := pf (ι := (Nat) × (Int)) (α := AV) (fun ⟨n, e⟩ => n ≤ 5 ∧ 0 ≤ e ∧ e ≤ 4294967295) (fun ⟨n, e⟩ => [.agg [.int .i64 n, .int .u32 e]]) (fun ⟨n, e⟩ => .str (grT e n))
theorem sp_graphTx_eq (n : Nat) (e : Int) (h : n ≤ 5 ∧ 0 ≤ e ∧ e ≤ 4294967295) : sp_graphTx [.agg [.int .i64 n, .int .u32 e]] = some (.str (grT e n)) := by
  unfold sp_graphTx
  exact pf_eq (ι := (Nat) × (Int)) (α := AV) (n, e) h (by rintro ⟨n', e'⟩ _ e; simp_all [Int.natCast_inj])
theorem q_impl_Graph_text : QP PP 37 sp_graphTx := by
  refine QP_pf (fun i h => ?_) fun i h => ?_
  · obtain ⟨n, e⟩ := i; exact ⟨by first | rfl | simp, by first | rfl | simp⟩
  obtain ⟨n, e⟩ := i
  replace h : n ≤ 5 ∧ 0 ≤ e ∧ e ≤ 4294967295 := h
  refine P_code (Quiet.q1 q_impl_decimal (Quiet.e1 n_impl_Graph_edges.toE Quiet.nil)) hmix k_impl_Graph_text rfl ?_ ?_
  · first | rfl | simp
  show wpc 0 PP _ c_impl_Graph_text (initSt [.agg [.int .i64 n, .int .u32 e]] .nil) (endP r_impl_Graph_text (.str (grT e n)))
  have hd := sp_decimal_eq n (by omega)
  have hs := decB_size n (by omega) (by omega)
  have he := sp_edges_eq n e h
  have z0 : 6 + (decB n).size ≤ 9223372036854775807 := by omega
  have hin := pairsE_in e n h.1
  have hlen := grT_len (e := e) h.1
  unfold pairsR at he
  unfold grT
  by_cases hL : pairsE e n = []
  · rw [hL, lvE_nil, obE_nil] at he
    rw [hL]
    simp -dsimp -implicitDefEqProofs [c_impl_Graph_text, r_impl_Graph_text, hd, he, z0]
    refine wpLoop_st (fun (_ : Unit) => ⟨tl [(3, .str (graphB ++ decB n)), (11, .sl [] true), (12, .int .i64 0), (13, .int .i64 0)], ⟨[]⟩⟩) (fun _ => True) (fun _ => 0) () trivial (Sub.keep (by simp) (by simp [hsub]) (by simp [graphB])) ?_
    intro i hi
    simp -dsimp -implicitDefEqProofs [edT]
  · have ht := fun i => edT_take (e := e) h.1 i
    generalize pairsE e n = L at *
    rw [lvE_cons hL, obE_cons hL] at he
    simp -dsimp -implicitDefEqProofs [c_impl_Graph_text, r_impl_Graph_text, hd, he, z0]
    refine wpLoop_st (fun (i : Nat) => ⟨tl [(3, .str (edT (graphB ++ decB n) (L.take i))), (11, .ref 1 2 0 L.length .full), (12, .int .i64 L.length), (13, .int .i64 i)], ⟨[some [.int .i64 n, .int .u32 e], some (flatA (frsA L))]⟩⟩) (fun i => i ≤ L.length) (fun i => L.length - i) 0 (by omega) (Sub.keep (by simp) (by simp [hsub]) (by simp [graphB, edT])) ?_
    intro i hi
    simp -dsimp -implicitDefEqProofs
    refine brW_of (fun h2 => ?_) (fun h2 => ?_) <;> simp only [decide_eq_true_eq, decide_eq_false_iff_not] at h2
    · have hx : i < L.length := by omega
      have hwi := wrapNat (i := i) (by omega)
      have hm := hin L[i] (List.getElem_mem hx)
      have hp := sp_decimal_eq L[i].p (by omega)
      have hq := sp_decimal_eq L[i].q (by omega)
      have hes := edT_snoc (graphB ++ decB n) L i hx
      have ht1 := ht i
      have q0 := get_fr0 L i hx
      have q1 := get_fr1 L i hx
      have g0 := getF0 L i hx (by simp; omega)
      have g1 := getF1 L i hx (by simp; omega)
      have sp := decB_size L[i].p (by omega) (by omega)
      have sq := decB_size L[i].q (by omega) (by omega)
      have z1 : 1 + (decB L[i].p).size ≤ 9223372036854775807 := by omega
      have z2 : 1 + (decB L[i].p).size + 1 ≤ 9223372036854775807 := by omega
      have z3 : 1 + (decB L[i].p).size + 1 + (decB L[i].q).size ≤ 9223372036854775807 := by omega
      have z4 : (edT (graphB ++ decB n) (L.take i)).size + (1 + (decB L[i].p).size + 1 + (decB L[i].q).size) ≤ 9223372036854775807 := by omega
      simp -dsimp -implicitDefEqProofs [hx, hp, hq, hwi, g0, g1, q0, q1, z1, z2, z3, z4]
      exact .mk (i + 1) (by omega) (by omega) (Sub.keep (by simp) (by simp [hsub]) (by simp [hes, edgeT, sepB, dashB, hwi]))
    · obtain rfl : i = L.length := by omega
      simp -dsimp -implicitDefEqProofs
theorem graphOk_in {n e : Int} (h : graphOk n e = true) : 0 ≤ n ∧ n ≤ 5 := by
  unfold graphOk at h
  exact (of_decide_eq_true h).1
def graphT (n e : Int) : ByteArray := if graphOk n e = true then grT e n.toNat else noB
noncomputable def sp_graphText : List AV → Option (AV) := pf (ι := (Int) × (Int)) (α := AV) (fun ⟨n, e⟩ => 0 ≤ e ∧ e ≤ 4294967295) (fun ⟨n, e⟩ => [.agg [.int .i64 n, .int .u32 e]]) (fun ⟨n, e⟩ => .str (graphT n e))
theorem sp_graphText_eq (n e : Int) (h : 0 ≤ e ∧ e ≤ 4294967295) : sp_graphText [.agg [.int .i64 n, .int .u32 e]] = some (.str (graphT n e)) := by
  unfold sp_graphText
  exact pf_eq (ι := (Int) × (Int)) (α := AV) (n, e) h (by rintro ⟨n', e'⟩ _ e; simp_all [Int.natCast_inj])
theorem q_spec_GraphText : QP PP 11 sp_graphText := by
  refine QP_pf (fun i h => ?_) fun i h => ?_
  · obtain ⟨n, e⟩ := i; exact ⟨by first | rfl | simp, by first | rfl | simp⟩
  obtain ⟨n, e⟩ := i
  replace h : 0 ≤ e ∧ e ≤ 4294967295 := h
  refine P_code (Quiet.q1 q_spec_l01Ok (Quiet.q1 q_spec_Decimal (Quiet.e1 n_spec_l01Pairs.toE Quiet.nil))) hmix k_spec_GraphText rfl ?_ ?_
  · first | rfl | simp
  show wpc 0 PP _ c_spec_GraphText (initSt [.agg [.int .i64 n, .int .u32 e]] .nil) (endP r_spec_GraphText (.str (graphT n e)))
  have ho := sp_graphOk_eq n e h
  cases hf : graphOk n e with
  | false =>
    rw [hf] at ho
    simp -dsimp -implicitDefEqProofs [c_spec_GraphText, r_spec_GraphText, ho, hf, graphT, noB]
  | true =>
    rw [hf] at ho
    have hn := graphOk_in hf
    obtain ⟨m, rfl⟩ := Int.eq_ofNat_of_zero_le hn.1
    have hm5 : m ≤ 5 := by omega
    have hd := sp_decS_eq m (by omega)
    have hs := decB_size m (by omega) (by omega)
    have he := sp_edges_eq m e ⟨hm5, h⟩
    have z0 : 6 + (decB m).size ≤ 9223372036854775807 := by omega
    have hin := pairsE_in e m hm5
    have hlen := grT_len (e := e) hm5
    unfold pairsR at he
    unfold graphT
    rw [if_pos hf, Int.toNat_natCast]
    unfold grT
    by_cases hL : pairsE e m = []
    · rw [hL, lvE_nil, obE_nil] at he
      rw [hL]
      simp -dsimp -implicitDefEqProofs [c_spec_GraphText, r_spec_GraphText, ho, hd, he, z0]
      refine wpLoop_st (fun (_ : Unit) => ⟨tl [(3, .str (graphB ++ decB m)), (4, .sl [] true), (5, .int .i64 0)], ⟨[]⟩⟩) (fun _ => True) (fun _ => 0) () trivial (Sub.keep (by simp) (by simp [hsub]) (by simp [graphB])) ?_
      intro i hi
      simp -dsimp -implicitDefEqProofs [edT]
    · have ht := fun i => edT_take (e := e) hm5 i
      generalize pairsE e m = L at *
      rw [lvE_cons hL, obE_cons hL] at he
      simp -dsimp -implicitDefEqProofs [c_spec_GraphText, r_spec_GraphText, ho, hd, he, z0]
      refine wpLoop_st (fun (i : Nat) => ⟨tl [(3, .str (edT (graphB ++ decB m) (L.take i))), (4, .ref 1 2 0 L.length .full), (5, .int .i64 i)], ⟨[some [.int .i64 m, .int .u32 e], some (flatA (frsA L))]⟩⟩) (fun i => i ≤ L.length) (fun i => L.length - i) 0 (by omega) (Sub.keep (by simp) (by simp [hsub]) (by simp [graphB, edT])) ?_
      intro i hi
      simp -dsimp -implicitDefEqProofs
      refine brW_of (fun h2 => ?_) (fun h2 => ?_) <;> simp only [decide_eq_true_eq, decide_eq_false_iff_not] at h2
      · have hx : i < L.length := by omega
        have hwi := wrapNat (i := i) (by omega)
        have hmm := hin L[i] (List.getElem_mem hx)
        have hp := sp_decS_eq L[i].p (by omega)
        have hq := sp_decS_eq L[i].q (by omega)
        have hes := edT_snoc (graphB ++ decB m) L i hx
        have ht1 := ht i
        have q0 := get_fr0 L i hx
        have q1 := get_fr1 L i hx
        have g0 := getF0 L i hx (by simp; omega)
        have g1 := getF1 L i hx (by simp; omega)
        have sp := decB_size L[i].p (by omega) (by omega)
        have sq := decB_size L[i].q (by omega) (by omega)
        have z1 : 1 + (decB L[i].p).size ≤ 9223372036854775807 := by omega
        have z2 : 1 + (decB L[i].p).size + 1 ≤ 9223372036854775807 := by omega
        have z3 : 1 + (decB L[i].p).size + 1 + (decB L[i].q).size ≤ 9223372036854775807 := by omega
        have z4 : (edT (graphB ++ decB m) (L.take i)).size + (1 + (decB L[i].p).size + 1 + (decB L[i].q).size) ≤ 9223372036854775807 := by omega
        simp -dsimp -implicitDefEqProofs [hx, hp, hq, hwi, g0, g1, q0, q1, z1, z2, z3, z4]
        exact .mk (i + 1) (by omega) (by omega) (Sub.keep (by simp) (by simp [hsub]) (by simp [hes, edgeT, sepB, dashB, hwi]))
      · obtain rfl : i = L.length := by omega
        simp -dsimp -implicitDefEqProofs
end Go.Proofs.YtlglgcmpeabdnaaDoorAi
end

section
/- Contracts and law: FlagText. -/
namespace Go.Proofs.YtlglgcmpeabdnaaDoorAi
open Go Go.RowKit
set_option linter.unusedVariables false
set_option linter.unusedSimpArgs false
set_option maxRecDepth 20000

noncomputable def sp_toFlag : List AV → Option (AV) := pf (ι := (Int) × (Int) × (Int)) (α := AV) (fun ⟨k, n, e⟩ => True) (fun ⟨k, n, e⟩ => [.agg [.int .i64 k, .int .i64 n, .int .u32 e]]) (fun ⟨k, n, e⟩ => .agg [.int .i64 k, .int .i64 n, .int .u32 e])
theorem sp_toFlag_eq (k n e : Int) : sp_toFlag [.agg [.int .i64 k, .int .i64 n, .int .u32 e]] = some (.agg [.int .i64 k, .int .i64 n, .int .u32 e]) := by
  unfold sp_toFlag
  exact pf_eq (ι := (Int) × (Int) × (Int)) (α := AV) (k, n, e) trivial (by rintro ⟨k', n', e'⟩ _ e; simp_all [Int.natCast_inj])
attribute [simp] sp_toFlag_eq
end Go.Proofs.YtlglgcmpeabdnaaDoorAi
end

section
/- Contracts: lists of numbers; graphs with so many vertices in each part. -/
namespace Go.Proofs.YtlglgcmpeabdnaaDoorAi
open Go Go.RowKit
set_option linter.unusedVariables false
set_option linter.unusedSimpArgs false
set_option maxRecDepth 20000

/-! ### searching in lists -/
end Go.Proofs.YtlglgcmpeabdnaaDoorAi
end

section
/- MADE BY PROGRAM (wip/tools/gen.py): the abstract code of functions. -/
namespace Go.Proofs.YtlglgcmpeabdnaaDoorAi
open Go AC AOp Opd
set_option linter.unusedVariables false
set_option maxRecDepth 100000
def c_impl_fractionsText : AC := seq (reg [⟨(some 2), mv (c (.str ⟨#[]⟩)), none⟩]) (seq (reg [⟨(some 6), bsl 1 0 [.str ⟨#[]⟩] [], none⟩, ⟨(some 3), mv (t 6), none⟩]) (seq (seq (reg [⟨(some 7), mv (t 0), none⟩, ⟨(some 8), len (t 7), none⟩, ⟨(some 9), mv (c (.int .i64 0)), none⟩]) (block 0 (loop (seq (reg [⟨(some 10), bin .lss (t 9) (t 8), none⟩]) (seq (cond (t 10) (skip) (exit 0)) (seq (block 1 (seq (reg [⟨(some 11), iad 2 (t 7) (t 9), none⟩, ⟨(some 12), ld (t 11) 2 true, none⟩, ⟨(some 5), alloc [.int .i64 0, .int .i64 0], none⟩, ⟨none, st (t 5) 2 (t 12), none⟩]) (reg [⟨(some 13), mv (t 3), none⟩, ⟨(some 14), ld (t 5) 2 true, none⟩, ⟨(some 15), callq (c (.fn 57 [])) [t 14], none⟩, ⟨(some 16), bsl 1 1 [.str ⟨#[]⟩] [(0, t 15)], none⟩, ⟨(some 17), app 1 16 (t 13) (t 16), none⟩, ⟨(some 3), mv (t 17), none⟩]))) (reg [⟨(some 18), bin .add (t 9) (c (.int .i64 1)), none⟩, ⟨(some 9), mv (t 18), none⟩]))))))) (seq (reg [⟨(some 19), mv (t 3), none⟩, ⟨(some 20), calle (c (.fn 58 [])) [t 19, c (.str ⟨#[32]⟩)] [], none⟩, ⟨(some 2), mv (t 20), none⟩]) (ret))))
def r_impl_fractionsText : List ARes := [.tmp 2]
theorem k_impl_fractionsText : acLin Go.Proofs.Tryd.prog 40 1 (inQ [57] [58]) [] = some (c_impl_fractionsText, r_impl_fractionsText) := by kernel_rfl
end Go.Proofs.YtlglgcmpeabdnaaDoorAi
end

section
/- Contracts: searching in lists of fractions and of rows; valid lists; valid matrices. -/
namespace Go.Proofs.YtlglgcmpeabdnaaDoorAi
open Go Go.RowKit
set_option linter.unusedVariables false
set_option linter.unusedSimpArgs false
set_option maxRecDepth 20000

@[simp] def rowA (r : List Fr) : AV := .sl (frsA r) false
theorem rowA_inj0 : ∀ x y, rowA x = rowA y → x = y := by
  intro x y h
  simp only [rowA] at h
  injection h with h _
  exact frsA_inj.1 h
@[simp] theorem rowsA_inj {l k : List (List Fr)} : mapA rowA l = mapA rowA k ↔ l = k := ⟨mapA_inj rowA_inj0, fun h => by rw [h]⟩

/-! ### valid lists -/
end Go.Proofs.YtlglgcmpeabdnaaDoorAi
end

section
/- Contracts: strings.Join. -/
namespace Go.Proofs.YtlglgcmpeabdnaaDoorAi
open Go Go.RowKit
set_option linter.unusedVariables false
set_option linter.unusedSimpArgs false
set_option maxRecDepth 20000

/-- A library's function of which the result is known, that reads what its arguments reach and leaves memory as it is but for new blocks. -/
theorem T.libS {P : Program} {f : FuncId} {args : List AV} {r : AV} (he : Enters P f) (h : ∀ (σ : Sg) (w : World) (vs : List Value), RepL σ args vs → (∀ b off v, σ.cell b off = some v → w.cell? ⟨b, off, none⟩ = some v) → GoodW P w → Calls P f vs.toArray w fun e w' => ∃ v, e = .returned v ∧ Below w.heap.size w w' ∧ Rep σ r v) (A : AHeap) :
    T P f args A fun r' A' => r' = r ∧ A' = A := by
  refine ⟨he, fun B w0 σ w vs hG hb hs ha => (h σ w vs ha (fun b off v e => hs.cell e) (hG w hb)).mono fun e w' ⟨v, e1, e2, e3⟩ => ?_⟩
  refine ⟨r, A, v, σ, e1, ⟨rfl, rfl⟩, ⟨fun _ _ h => h, fun _ _ h => h, rfl, fun _ _ h => h⟩, hs.under e2, e3, hb.trans ⟨e2.os, e2.tape, e2.output, e2.size, fun k hk => e2.block k (hs.base k hk)⟩⟩

theorem rep_sl_inv {σ : Sg} {xs : List AV} {t : Bool} {v : Value} (h : Rep σ (.sl xs t) v) : (xs = [] ∧ ∃ a c, v = .slice a 0 c) ∨ ∃ b off c s, v = .slice (some ⟨b, off, none⟩) xs.length c ∧ xs.length ≤ c ∧
    ∀ (i : Nat) (x : AV), xs[i]? = some x → x.cells.length = s ∧ ∀ (j : Nat) (c : AV), x.cells[j]? = some c → ∃ u, σ.cell b (off + i * s + j) = some u ∧ Rep σ c u := by
  cases h with
  | slnil t a cap => exact .inl ⟨rfl, _, _, rfl⟩
  | sl xs t b off s cap val hlen hcap ht hs hm hr h1 hp =>
    exact .inr ⟨b, off, cap, s, rfl, hlen, fun i x hx => ⟨hs i x hx, fun j c hj => ⟨_, hm i x hx j c hj, hr i x hx j c hj⟩⟩⟩
@[simp] def strA (s : ByteArray) : AV := .str s
theorem strA_inj0 : ∀ x y, strA x = strA y → x = y := by
  intro x y h
  simp only [strA] at h
  injection h
abbrev strsA (l : List ByteArray) : List AV := mapA strA l
@[simp] theorem strsA_inj {l k : List ByteArray} : mapA strA l = mapA strA k ↔ l = k := ⟨mapA_inj strA_inj0, fun h => by rw [h]⟩
instance : Plain strA 1 := ⟨fun _ => rfl, by omega, fun _ => rfl, fun _ => rfl, fun _ => rfl, fun _ _ => rfl⟩
def joinT (l : List ByteArray) (sep : ByteArray) : ByteArray := ⟨(Go.Lib.join (l.map (·.data.toList)) sep.data.toList).toArray⟩
noncomputable def sp_joinS : List AV → Option (AV) := pf (ι := (List ByteArray) × (ByteArray)) (α := AV) (fun ⟨l, sep⟩ => l.length ≤ 1048576 ∧ (joinT l sep).size ≤ 140737488355328) (fun ⟨l, sep⟩ => [.sl (strsA l) false, .str sep]) (fun ⟨l, sep⟩ => .str (joinT l sep))
theorem sp_joinS_eq (l : List ByteArray) (sep : ByteArray) (h : l.length ≤ 1048576 ∧ (joinT l sep).size ≤ 140737488355328) : sp_joinS [.sl (strsA l) false, .str sep] = some (.str (joinT l sep)) := by
  unfold sp_joinS
  exact pf_eq (ι := (List ByteArray) × (ByteArray)) (α := AV) (l, sep) h (by rintro ⟨l', sep'⟩ _ e; simp_all [Int.natCast_inj])
theorem q_strings_Join : QP PP 58 sp_joinS := by
  refine QP_pf (fun i h => ?_) fun i h => ?_
  · obtain ⟨l, sep⟩ := i; exact ⟨by first | rfl | simp, by first | rfl | simp⟩
  obtain ⟨l, sep⟩ := i
  replace h : l.length ≤ 1048576 ∧ (joinT l sep).size ≤ 140737488355328 := h
  refine T.libS ⟨_, Tryd.func58, by kernel_rfl, by kernel_rfl⟩ (fun σ w vs hr hc hG => ?_) .nil
  obtain ⟨v1, us, rfl, h1, h2⟩ := hr.head
  obtain ⟨v2, us2, rfl, h3, h4⟩ := h2.head
  obtain rfl : us2 = [] := List.eq_nil_of_length_eq_zero h4.1.symm
  cases h3
  by_cases hl : l = []
  · have hv : ∃ a c, v1 = .slice a 0 c := by
      rcases rep_sl_inv h1 with ⟨_, h5⟩ | ⟨b, off, c, s, h5, _⟩
      · exact h5
      · exact ⟨_, _, by rw [h5, hl]; rfl⟩
    obtain ⟨a, c, rfl⟩ := hv
    refine (Tryd.strings_Join_none a c sep w).mono ?_
    rintro e w' ⟨rfl, rfl⟩
    refine ⟨_, rfl, Below.refl _ _, ?_⟩
    rw [hl]; exact .str _
  · have hv : ∃ b off c, v1 = .slice (some ⟨b, off, none⟩) l.length c ∧ l.length ≤ c ∧ ∀ (j : Nat) x, l[j]? = some x → w.cell? ⟨b, off + j, none⟩ = some (.string x) := by
      rcases rep_sl_inv h1 with ⟨h5, _⟩ | ⟨b, off, c, s, h5, h6, h7⟩
      · exact absurd (by simpa [mapA] using h5) hl
      · refine ⟨b, off, c, by rw [h5]; simp, by simpa using h6, fun j x hx => ?_⟩
        have hj : (mapA strA l)[j]? = some (strA x) := by simp [hx]
        obtain ⟨e1, e2⟩ := h7 j _ hj
        have e1 : 1 = s := e1
        subst e1
        obtain ⟨u, e3, e4⟩ := e2 0 (.str x) rfl
        have e5 := hc _ _ _ e3
        cases e4
        simpa using e5
    obtain ⟨b, off, c, rfl, hcap, hcells⟩ := hv
    have hbk : b < w.heap.size := by
      cases l with
      | nil => exact absurd rfl hl
      | cons x l =>
        have := hcells 0 x rfl
        unfold World.cell? at this
        rcases Nat.lt_or_ge b w.heap.size with hlt | hge
        · exact hlt
        · rw [Array.getElem?_eq_none hge] at this; cases this
    refine (Tryd.strings_Join b off c l sep w hcells hbk (by omega) hcap (by have := h.2; unfold joinT at this; simpa [ByteArray.size] using this)).mono ?_
    rintro e w' ⟨rfl, hb⟩
    exact ⟨_, rfl, hb, .str _⟩
end Go.Proofs.YtlglgcmpeabdnaaDoorAi
end

section
/- Contracts: texts of lists of fractions and of matrices. -/
namespace Go.Proofs.YtlglgcmpeabdnaaDoorAi
open Go Go.RowKit
set_option linter.unusedVariables false
set_option linter.unusedSimpArgs false
set_option maxRecDepth 20000

theorem ljoin_cons2 (x y : List UInt8) (r : List (List UInt8)) (sep : List UInt8) : Go.Lib.join (x :: y :: r) sep = x ++ (sep ++ Go.Lib.join (y :: r) sep) := by
  simp [Go.Lib.join, List.intercalate, List.intersperse]
theorem ljoin_snoc (sep x : List UInt8) : ∀ (l : List (List UInt8)), l ≠ [] → Go.Lib.join (l ++ [x]) sep = Go.Lib.join l sep ++ (sep ++ x)
  | [], h => absurd rfl h
  | [y], _ => by
    show Go.Lib.join [y, x] sep = _
    rw [ljoin_cons2, Go.Lib.join_one, Go.Lib.join_one]
  | y :: z :: r, _ => by
    show Go.Lib.join (y :: z :: (r ++ [x])) sep = _
    have ih := ljoin_snoc sep x (z :: r) (by simp)
    rw [ljoin_cons2, ljoin_cons2]
    rw [List.cons_append] at ih
    rw [ih]
    simp only [List.append_assoc]
theorem joinT_nil (sep : ByteArray) : joinT [] sep = ⟨#[]⟩ := rfl
theorem joinT_one (x sep : ByteArray) : joinT [x] sep = x := by
  unfold joinT; rw [List.map_cons, List.map_nil, Go.Lib.join_one]
theorem joinT_snoc (sep x : ByteArray) (l : List ByteArray) (h : l ≠ []) : joinT (l ++ [x]) sep = joinT l sep ++ (sep ++ x) := by
  unfold joinT
  rw [List.map_append, List.map_cons, List.map_nil, ljoin_snoc _ _ _ (by simpa using h)]
  apply ByteArray.ext
  simp
theorem joinT_size (sep : ByteArray) (m : Nat) : ∀ (l : List ByteArray), (∀ x ∈ l, x.size ≤ m) → (joinT l sep).size ≤ l.length * (m + sep.size)
  | [], _ => by simp [joinT_nil]
  | [y], h => by
    have := h y (List.mem_cons_self ..)
    rw [joinT_one, List.length_singleton]; omega
  | y :: z :: r, h => by
    have h1 := joinT_size sep m (z :: r) fun x hx => h x (List.mem_cons_of_mem _ hx)
    have h2 := h y (List.mem_cons_self ..)
    have e : (joinT (y :: z :: r) sep).size = y.size + (sep.size + (joinT (z :: r) sep).size) := by
      unfold joinT
      rw [List.map_cons, List.map_cons, ljoin_cons2]
      simp only [ba_size, List.size_toArray, List.length_append, Array.length_toList]
      rfl
    rw [e, List.length_cons, Nat.add_mul]
    rw [List.length_cons] at h1 ⊢
    omega
def oneB : ByteArray := ⟨#[32]⟩
def frS (x : Fr) : ByteArray := frT x.p x.q
def fracsT (l : List Fr) : ByteArray := joinT (l.map frS) oneB
theorem frS_size {x : Fr} (h : frOk x.p x.q = true) : (frS x).size ≤ 43 := by
  have hb := frOk_bd h
  have s1 := decB_size x.p (by omega) (by omega)
  have s2 := decB_size x.q (by omega) (by omega)
  unfold frS frT
  split
  · omega
  · have : slashB.size = 1 := rfl
    simp only [ByteArray.size_append]; omega
theorem allOk_get {l : List Fr} (h : allOk l = true) : ∀ x ∈ l, frOk x.p x.q = true := by
  unfold allOk at h
  exact fun x hx => List.all_eq_true.1 h x hx
theorem fracsT_size {l : List Fr} (h : allOk l = true) : (fracsT l).size ≤ l.length * 44 := by
  have := joinT_size oneB 43 (l.map frS) (by
    intro x hx
    obtain ⟨y, hy, rfl⟩ := List.mem_map.1 hx
    exact frS_size (allOk_get h y hy))
  have e : oneB.size = 1 := rfl
  rw [e, List.length_map] at this
  exact this
def lvS (N : Nat) (L : List ByteArray) : AV := if L = [] then .sl [] true else .ref N 1 0 L.length .full
def obS (L : List ByteArray) : List (Option (List AV)) := if L = [] then [] else [some (flatA (strsA L))]
theorem lvS_nil (N : Nat) : lvS N [] = .sl [] true := rfl
theorem obS_nil : obS [] = [] := rfl
theorem lvS_cons {N : Nat} {L : List ByteArray} (h : L ≠ []) : lvS N L = .ref N 1 0 L.length .full := if_neg h
theorem obS_cons {L : List ByteArray} (h : L ≠ []) : obS L = [some (flatA (strsA L))] := if_neg h
theorem strS_snoc (L : List ByteArray) (s : ByteArray) : flatA (strsA L) ++ [.str s] = flatA (strsA (L ++ [s])) := by
  rw [flatA_append]; rfl
@[simp] theorem gath_str (l : List ByteArray) (n : Nat) (h : n = l.length) : gath 1 n (flatA (mapA strA l)) = mapA strA l := flatA_gath l n h
def ftSt (l : List Fr) (i : Nat) : St := ⟨tl [(3, lvS 0 ((l.map frS).take i)), (7, .sl (frsA l) false), (8, .int .i64 l.length), (9, .int .i64 i)], ⟨obS ((l.map frS).take i)⟩⟩
noncomputable def sp_fracsText : List AV → Option (AV) := pf (ι := (List Fr)) (α := AV) (fun l => allOk l = true ∧ l.length ≤ 256) (fun l => [.sl (frsA l) false]) (fun l => .str (fracsT l))
theorem sp_fracsText_eq (l : List Fr) (h : allOk l = true ∧ l.length ≤ 256) : sp_fracsText [.sl (frsA l) false] = some (.str (fracsT l)) := by
  unfold sp_fracsText
  exact pf_eq (ι := (List Fr)) (α := AV) l h (by rintro l' _ e; simp_all [Int.natCast_inj])
theorem q_impl_fractionsText : QP PP 40 sp_fracsText := by
  refine QP_pf (fun l h => ?_) fun l h => ?_
  · exact ⟨by first | rfl | simp, by first | rfl | simp⟩
  replace h : allOk l = true ∧ l.length ≤ 256 := h
  refine P_code (Quiet.q1 q_impl_Fraction_text (Quiet.e1 q_strings_Join.toR Quiet.nil)) hmix k_impl_fractionsText rfl ?_ ?_
  · first | rfl | simp
  show wpc 0 PP _ c_impl_fractionsText (initSt [.sl (frsA l) false] .nil) (endP r_impl_fractionsText (.str (fracsT l)))
  obtain ⟨ho, hl⟩ := h
  have hj := sp_joinS_eq (l.map frS) oneB ⟨by simp; omega, by have := fracsT_size ho; unfold fracsT at this; omega⟩
  simp -dsimp -implicitDefEqProofs [c_impl_fractionsText, r_impl_fractionsText]
  refine wpLoop_st (ftSt l) (fun i => i ≤ l.length) (fun i => l.length - i) 0 (by omega) (Sub.keep (by simp [ftSt, obS_nil]) (by simp [hsub, ftSt, obS_nil]) (by simp [ftSt, lvS_nil])) ?_
  intro i hi
  simp -dsimp -implicitDefEqProofs [ftSt]
  refine brW_of (fun h => ?_) (fun h => ?_) <;> simp only [decide_eq_true_eq, decide_eq_false_iff_not] at h
  · have hx : i < l.length := by omega
    have hwi := wrapNat (i := i) (by omega)
    have hb := frOk_bd (allOk_get ho l[i] (List.getElem_mem hx))
    have ht := sp_frText_eq l[i].p l[i].q ⟨by omega, by omega⟩
    have e4 : (l.map frS).take (i + 1) = (l.map frS).take i ++ [frS l[i]] := by rw [take_snoc (l.map frS) i (by simpa using hx), List.getElem_map]
    have hlen : ((l.map frS).take i).length = i := by simp; omega
    have e6 : frT l[i].p l[i].q = frS l[i] := rfl
    have e2 := strS_snoc ((l.map frS).take i) (frS l[i])
    by_cases hL : (l.map frS).take i = []
    · rw [hL] at e4
      have l1 : 1 * 17 ≤ mostBytes := by decide
      rw [hL]
      simp -dsimp -implicitDefEqProofs [hx, ht, hwi, lvS_nil, obS_nil, l1, e6]
      exact .mk (i + 1) (by omega) (by omega) (Sub.mk' (fun b => if b = 0 then 2 else b) (by simp) (by intro b hb; simp at hb <;> omega) (by show injB _ (obS ((l.map frS).take (i + 1))).length = true; rw [e4, obS_cons (by simp)]; rfl) (by simp [hsub, ftSt, e4, obS, flatA_cons]) (by simp [ftSt, e4, lvS, obS, hwi]))
    · generalize hL2 : (l.map frS).take (i + 1) = L2 at *
      generalize (l.map frS).take i = L at *
      have l1 : (L.length + 1) * 17 ≤ mostBytes := by simp only [mostBytes]; omega
      have l2 : ¬ (L.length + 1 ≤ L.length) := by omega
      have l3 : (flatA (strsA L)).take L.length = flatA (strsA L) := List.take_of_length_le (by simp)
      have e5 : L2 ≠ [] := by rw [e4]; simp
      simp -dsimp -implicitDefEqProofs [hx, ht, hwi, l1, l2, l3, e2, e6, lvS_cons hL, obS_cons hL]
      exact .mk (i + 1) (by omega) (by omega) (Sub.mk' (fun b => if b = 0 then 3 else b) (by simp) (by intro b hb; simp at hb <;> omega) (by show injB _ (obS ((l.map frS).take (i + 1))).length = true; rw [hL2, obS_cons e5]; rfl) (by simp [hsub, ftSt, hL2, e4, obS_cons]) (by simp [ftSt, hL2, e4, lvS_cons, obS_cons, hwi]))
  · obtain rfl : i = l.length := by omega
    rw [show (l.map frS).take l.length = l.map frS from List.take_of_length_le (by simp)]
    unfold fracsT
    by_cases hL : l.map frS = []
    · rw [hL] at hj ⊢
      have hj' : sp_joinS [.sl [] false, .str ⟨#[32]⟩] = some (.str (joinT [] oneB)) := hj
      simp -dsimp -implicitDefEqProofs [lvS_nil, obS_nil, hj']
    · generalize l.map frS = L at *
      have hj' : sp_joinS [.sl (strsA L) false, .str ⟨#[32]⟩] = some (.str (joinT L oneB)) := hj
      simp -dsimp -implicitDefEqProofs [lvS_cons hL, obS_cons hL, hj']
end Go.Proofs.YtlglgcmpeabdnaaDoorAi
end

section
/- Contracts: texts of matrices of the program. -/
namespace Go.Proofs.YtlglgcmpeabdnaaDoorAi
open Go Go.RowKit
set_option linter.unusedVariables false
set_option linter.unusedSimpArgs false
set_option maxRecDepth 20000

def lineB : ByteArray := ⟨#[10]⟩
end Go.Proofs.YtlglgcmpeabdnaaDoorAi
end

section
/- MADE BY PROGRAM (wip/tools/gen.py): the abstract code of functions. -/
namespace Go.Proofs.YtlglgcmpeabdnaaDoorAi
open Go AC AOp Opd
set_option linter.unusedVariables false
set_option maxRecDepth 100000
def c_impl_Pattern_text : AC := seq (reg [⟨(some 2), mv (c (.str ⟨#[]⟩)), none⟩]) (seq (reg [⟨(some 5), bld [.nilp, .sl [] true] [], none⟩, ⟨(some 3), allocb 74, none⟩, ⟨none, st (t 3) 2 (t 5), none⟩]) (seq (reg [⟨(some 6), mv (t 0), none⟩, ⟨(some 7), nilc (t 6), none⟩, ⟨(some 8), fad (t 7) 0, none⟩, ⟨(some 9), ld (t 8) 2 true, none⟩, ⟨(some 10), callq (c (.fn 37 [])) [t 9], none⟩, ⟨(some 11), bin .add (c (.str ⟨#[112, 97, 116, 116, 101, 114, 110, 32]⟩)) (t 10), none⟩, ⟨(some 12), bin .add (t 11) (c (.str ⟨#[10]⟩)), none⟩, ⟨(some 13), bin .add (t 12) (c (.str ⟨#[108, 111, 111, 112, 115]⟩)), none⟩, ⟨(some 14), calle (c (.fn 36 [])) [t 3, t 13] [], none⟩]) (seq (seq (reg [⟨(some 15), mv (t 0), none⟩, ⟨(some 16), nilc (t 15), none⟩, ⟨(some 17), fad (t 16) 0, none⟩, ⟨(some 18), fad (t 17) 0, none⟩, ⟨(some 19), ld (t 18) 1 false, none⟩, ⟨(some 20), mv (c (.int .i64 0)), none⟩]) (block 0 (loop (seq (reg [⟨(some 21), bin .lss (t 20) (t 19), none⟩]) (seq (cond (t 21) (skip) (exit 0)) (seq (block 1 (seq (reg [⟨(some 22), mv (t 20), none⟩, ⟨(some 4), mv (t 22), none⟩]) (seq (reg [⟨(some 23), mv (t 0), none⟩, ⟨(some 24), mv (t 4), none⟩, ⟨(some 25), calle (c (.fn 38 [])) [t 23, t 24] [], none⟩]) (cond (t 25) (reg [⟨(some 26), mv (t 4), none⟩, ⟨(some 27), callq (c (.fn 39 [])) [t 26], none⟩, ⟨(some 28), bin .add (c (.str ⟨#[32]⟩)) (t 27), none⟩, ⟨(some 29), calle (c (.fn 36 [])) [t 3, t 28] [], none⟩]) (skip))))) (reg [⟨(some 30), bin .add (t 20) (c (.int .i64 1)), none⟩, ⟨(some 20), mv (t 30), none⟩]))))))) (seq (reg [⟨(some 31), mv (t 0), none⟩, ⟨(some 32), nilc (t 31), none⟩, ⟨(some 33), fad (t 32) 3, none⟩, ⟨(some 34), ld (t 33) 1 false, none⟩, ⟨(some 35), callq (c (.fn 40 [])) [t 34], none⟩, ⟨(some 36), bin .add (c (.str ⟨#[10, 119, 101, 105, 103, 104, 116, 115, 32]⟩)) (t 35), none⟩, ⟨(some 37), bin .add (t 36) (c (.str ⟨#[10]⟩)), none⟩, ⟨(some 38), calle (c (.fn 36 [])) [t 3, t 37] [], none⟩]) (seq (reg [⟨(some 39), calle (c (.fn 41 [])) [t 3] [], none⟩, ⟨(some 2), mv (t 39), none⟩]) (ret))))))
def r_impl_Pattern_text : List ARes := [.tmp 2]
theorem k_impl_Pattern_text : acLin Go.Proofs.Tryd.prog 18 1 (inQ [37, 39, 40] [36, 38, 41]) [] = some (c_impl_Pattern_text, r_impl_Pattern_text) := by kernel_rfl
def c_impl_PatternText : AC := seq (reg [⟨(some 1), box 4 (t 0), none⟩, ⟨(some 2), mv (c (.str ⟨#[]⟩)), none⟩]) (seq (seq (reg [⟨(some 3), ld (t 1) 4 true, none⟩, ⟨(some 4), callq (c (.fn 17 [])) [t 3], none⟩, ⟨(some 5), un .not (t 4), none⟩]) (cond (t 5) (seq (reg [⟨(some 2), mv (c (.str ⟨#[]⟩)), none⟩]) (ret)) (skip))) (seq (reg [⟨(some 6), calle (c (.fn 18 [])) [t 1] [], none⟩, ⟨(some 2), mv (t 6), none⟩]) (ret)))
def r_impl_PatternText : List ARes := [.tmp 2]
theorem k_impl_PatternText : acLin Go.Proofs.Tryd.prog 7 1 (inQ [17] [18]) [] = some (c_impl_PatternText, r_impl_PatternText) := by kernel_rfl
def c_spec_PatternText : AC := seq (reg [⟨(some 1), box 4 (t 0), none⟩, ⟨(some 2), mv (c (.str ⟨#[]⟩)), none⟩]) (seq (seq (reg [⟨(some 6), calle (c (.fn 10 [])) [t 1] [], none⟩, ⟨(some 7), un .not (t 6), none⟩]) (cond (t 7) (seq (reg [⟨(some 2), mv (c (.str ⟨#[]⟩)), none⟩]) (ret)) (skip))) (seq (reg [⟨(some 8), fad (t 1) 0, none⟩, ⟨(some 9), ld (t 8) 2 true, none⟩, ⟨(some 10), callq (c (.fn 11 [])) [t 9], none⟩, ⟨(some 11), bin .add (c (.str ⟨#[112, 97, 116, 116, 101, 114, 110, 32]⟩)) (t 10), none⟩, ⟨(some 12), bin .add (t 11) (c (.str ⟨#[10, 108, 111, 111, 112, 115]⟩)), none⟩, ⟨(some 3), mv (t 12), none⟩]) (seq (seq (reg [⟨(some 4), mv (c (.int .i64 0)), none⟩]) (block 0 (loop (seq (seq (reg [⟨(some 13), mv (t 4), none⟩, ⟨(some 14), fad (t 1) 0, none⟩, ⟨(some 15), fad (t 14) 0, none⟩, ⟨(some 16), ld (t 15) 1 false, none⟩, ⟨(some 17), bin .lss (t 13) (t 16), none⟩]) (cond (t 17) (skip) (exit 0))) (seq (block 1 (seq (reg [⟨(some 20), mv (t 4), none⟩, ⟨(some 21), mv (t 4), none⟩, ⟨(some 22), calle (c (.fn 12 [])) [t 1, t 20, t 21] [], none⟩]) (cond (t 22) (reg [⟨(some 23), mv (t 3), none⟩, ⟨(some 24), mv (t 4), none⟩, ⟨(some 25), callq (c (.fn 13 [])) [t 24], none⟩, ⟨(some 26), bin .add (c (.str ⟨#[32]⟩)) (t 25), none⟩, ⟨(some 27), bin .add (t 23) (t 26), none⟩, ⟨(some 3), mv (t 27), none⟩]) (skip)))) (reg [⟨(some 18), mv (t 4), none⟩, ⟨(some 19), bin .add (t 18) (c (.int .i64 1)), none⟩, ⟨(some 4), mv (t 19), none⟩])))))) (seq (reg [⟨(some 28), mv (t 3), none⟩, ⟨(some 29), bin .add (t 28) (c (.str ⟨#[10, 119, 101, 105, 103, 104, 116, 115]⟩)), none⟩, ⟨(some 3), mv (t 29), none⟩]) (seq (seq (reg [⟨(some 5), mv (c (.int .i64 0)), none⟩]) (block 2 (loop (seq (seq (reg [⟨(some 30), mv (t 5), none⟩, ⟨(some 31), fad (t 1) 3, none⟩, ⟨(some 32), ld (t 31) 1 false, none⟩, ⟨(some 33), len (t 32), none⟩, ⟨(some 34), bin .lss (t 30) (t 33), none⟩]) (cond (t 34) (skip) (exit 2))) (seq (block 3 (reg [⟨(some 37), mv (t 3), none⟩, ⟨(some 38), fad (t 1) 3, none⟩, ⟨(some 39), ld (t 38) 1 false, none⟩, ⟨(some 40), mv (t 5), none⟩, ⟨(some 41), iad 2 (t 39) (t 40), none⟩, ⟨(some 42), ld (t 41) 2 true, none⟩, ⟨(some 43), callq (c (.fn 14 [])) [t 42], none⟩, ⟨(some 44), bin .add (c (.str ⟨#[32]⟩)) (t 43), none⟩, ⟨(some 45), bin .add (t 37) (t 44), none⟩, ⟨(some 3), mv (t 45), none⟩])) (reg [⟨(some 35), mv (t 5), none⟩, ⟨(some 36), bin .add (t 35) (c (.int .i64 1)), none⟩, ⟨(some 5), mv (t 36), none⟩])))))) (seq (reg [⟨(some 46), mv (t 3), none⟩, ⟨(some 47), bin .add (t 46) (c (.str ⟨#[10]⟩)), none⟩, ⟨(some 2), mv (t 47), none⟩]) (ret)))))))
def r_spec_PatternText : List ARes := [.tmp 2]
theorem k_spec_PatternText : acLin Go.Proofs.Tryd.prog 5 1 (inQ [11, 13, 14] [10, 12]) [] = some (c_spec_PatternText, r_spec_PatternText) := by kernel_rfl
def c_laws_FnExactPatternText : AC := seq (reg [⟨(some 1), box 4 (t 0), none⟩, ⟨(some 2), mv (c (.bool false)), none⟩]) (seq (reg [⟨(some 3), mv (c (.int .i64 1048576)), none⟩]) (seq (reg [⟨(some 7), ld (t 1) 4 true, none⟩, ⟨(some 8), mv (t 3), none⟩, ⟨(some 9), callq (c (.fn 4 [])) [t 7, t 8], none⟩, ⟨(some 3), mv (t 9), none⟩]) (seq (seq (reg [⟨(some 10), mv (t 3), none⟩, ⟨(some 11), bin .lss (t 10) (c (.int .i64 0)), none⟩]) (cond (t 11) (seq (reg [⟨(some 2), mv (c (.bool true)), none⟩]) (ret)) (skip))) (seq (reg [⟨(some 12), ld (t 1) 4 true, none⟩, ⟨(some 13), callq (c (.fn 6 [])) [t 12], none⟩, ⟨(some 14), callq (c (.fn 5 [])) [t 13], none⟩, ⟨(some 4), mv (t 14), none⟩]) (seq (reg [⟨(some 15), ld (t 1) 4 true, none⟩, ⟨(some 16), callq (c (.fn 6 [])) [t 15], none⟩, ⟨(some 5), alloc [.int .i64 0, .int .u32 0, .int .u32 0, .sl [] true], none⟩, ⟨none, st (t 5) 4 (t 16), none⟩]) (seq (reg [⟨(some 17), ld (t 5) 4 true, none⟩, ⟨(some 18), callq (c (.fn 7 [])) [t 17], none⟩, ⟨(some 6), mv (t 18), none⟩]) (seq (seq (reg [⟨(some 19), mv (t 6), none⟩, ⟨(some 20), mv (t 4), none⟩, ⟨(some 21), bin .neq (t 19) (t 20), none⟩]) (cond (t 21) (seq (reg [⟨(some 2), mv (c (.bool false)), none⟩]) (ret)) (skip))) (seq (seq (reg [⟨(some 22), ld (t 5) 4 true, none⟩, ⟨(some 23), ld (t 1) 4 true, none⟩, ⟨(some 24), callq (c (.fn 6 [])) [t 23], none⟩, ⟨(some 25), callq (c (.fn 8 [])) [t 22, t 24], none⟩, ⟨(some 26), un .not (t 25), none⟩]) (cond (t 26) (seq (reg [⟨(some 2), mv (c (.bool false)), none⟩]) (ret)) (skip))) (seq (reg [⟨(some 2), mv (c (.bool true)), none⟩]) (ret))))))))))
def r_laws_FnExactPatternText : List ARes := [.tmp 2]
theorem k_laws_FnExactPatternText : acLin Go.Proofs.Tryd.prog 3 1 (inQ [4, 5, 6, 7, 8] []) [⟨false, none, [], [], none⟩, ⟨false, none, [], [], none⟩, ⟨false, none, [], [], none⟩, ⟨false, none, [], [], none⟩, ⟨false, none, [], [], none⟩, ⟨false, none, [], [], none⟩, ⟨false, none, [], [], none⟩, ⟨false, none, [], [], none⟩, ⟨false, none, [], [], none⟩, ⟨false, none, [], [], none⟩, ⟨false, none, [], [], none⟩, ⟨false, none, [], [], none⟩, ⟨false, some [0, 1, 2, 3, 4], [], [], none⟩] = some (c_laws_FnExactPatternText, r_laws_FnExactPatternText) := by kernel_rfl
end Go.Proofs.YtlglgcmpeabdnaaDoorAi
end

section
/- Contracts: texts of patterns, of the program. -/
namespace Go.Proofs.YtlglgcmpeabdnaaDoorAi
open Go Go.RowKit
set_option linter.unusedVariables false
set_option linter.unusedSimpArgs false
set_option maxRecDepth 20000

@[simp] theorem bytesA_lt (n : Nat) (s : ByteArray) : ltL n (bytesA s) = true := by
  unfold bytesA
  induction s.data.toList with
  | nil => rfl
  | cons x r ih => simp [ltL, AV.lt, ih]
@[simp] theorem bytesA_ren (f : Nat → Nat) (s : ByteArray) : renL f (bytesA s) = bytesA s := by
  unfold bytesA
  induction s.data.toList with
  | nil => rfl
  | cons x r ih => simp [renL, AV.ren, ih]
@[simp] theorem bytesA_loose (s : ByteArray) : looseL (bytesA s) = bytesA s := by
  unfold bytesA
  induction s.data.toList with
  | nil => rfl
  | cons x r ih => simp [looseL, AV.loose, ih]
/-! ### a builder behind one object -/
theorem bT_eq : (74 : Nat) = bT := rfl
theorem ws_fresh (o : Option (List AV)) (s : ByteArray) : spWS [.ep (.ptr 1 0) 74 0, .str s] ⟨[o, some [.nilp, .sl [] true]]⟩ = if s.size ≠ 0 ∧ s.size ≤ 140737488355328 then some (wsR s.size, ⟨[o, some [.ptr 1 0, .ref 2 1 0 s.size .u8], some (bytesA s)]⟩) else none := by
  show (if (74 : Nat) = bT then _ else none) = _
  rw [if_pos bT_eq]; rfl
theorem ws_used (o : Option (List AV)) (n : Nat) (cs : List AV) (s : ByteArray) : spWS [.ep (.ptr 1 0) 74 0, .str s] ⟨[o, some [.ptr 1 0, .ref 2 1 0 n .u8], some cs]⟩ = if n ≠ 0 ∧ n + s.size ≤ 140737488355328 ∧ cs.length = n then some (wsR s.size, ⟨[o, some [.ptr 1 0, .ref 3 1 0 (n + s.size) .u8], none, some (cs ++ bytesA s)]⟩) else none := by
  have e1 : spWS [.ep (.ptr 1 0) 74 0, .str s] ⟨[o, some [.ptr 1 0, .ref 2 1 0 n .u8], some cs]⟩ = if (1 : Nat) = 1 ∧ (2 : Nat) ≠ 1 ∧ n ≠ 0 ∧ n + s.size ≤ 140737488355328 then (if cs.length = n then some (wsR s.size, ⟨[o, some [.ptr 1 0, .ref 3 1 0 (n + s.size) .u8], none, some (cs ++ bytesA s)]⟩) else none) else none := by
    show (if (74 : Nat) = bT then _ else none) = _
    rw [if_pos bT_eq]; rfl
  rw [e1]
  by_cases h1 : n ≠ 0 ∧ n + s.size ≤ 140737488355328
  · rw [if_pos ⟨rfl, by decide, h1.1, h1.2⟩]
    by_cases h2 : cs.length = n
    · rw [if_pos h2, if_pos ⟨h1.1, h1.2, h2⟩]
    · rw [if_neg h2, if_neg fun h => h2 h.2.2]
  · rw [if_neg fun h => h1 ⟨h.2.2.1, h.2.2.2⟩, if_neg fun h => h1 ⟨h.1, h.2.1⟩]
theorem bs_used (o : Option (List AV)) (n : Nat) (s : ByteArray) : spBS [.ep (.ptr 1 0) 74 0] ⟨[o, some [.ptr 1 0, .ref 3 1 0 n .u8], none, some (bytesA s)]⟩ = if n ≠ 0 ∧ s.size = n then some (.str s, ⟨[o, some [.ptr 1 0, .ref 3 1 0 n .u8], none, none]⟩) else none := by
  have e1 : spBS [.ep (.ptr 1 0) 74 0] ⟨[o, some [.ptr 1 0, .ref 3 1 0 n .u8], none, some (bytesA s)]⟩ = if (1 : Nat) = 1 ∧ (3 : Nat) ≠ 1 ∧ n ≠ 0 then (if (bytesA s).length = n then (unB (bytesA s)).map fun l => (.str ⟨l.toArray⟩, ⟨[o, some [.ptr 1 0, .ref 3 1 0 n .u8], none, none]⟩) else none) else none := by
    show (if (74 : Nat) = bT then _ else none) = _
    rw [if_pos bT_eq]; rfl
  rw [e1, unB_bytes, bytesA_len]
  by_cases h1 : n ≠ 0
  · rw [if_pos ⟨rfl, by decide, h1⟩]
    by_cases h2 : s.size = n
    · rw [if_pos h2, if_pos ⟨h1, h2⟩]
      simp
    · rw [if_neg h2, if_neg fun h => h2 h.2]
  · rw [if_neg fun h => h1 h.2.2, if_neg fun h => h1 h.1]
/-! ### texts -/
def patB : ByteArray := ⟨#[112, 97, 116, 116, 101, 114, 110, 32]⟩
def loopsB : ByteArray := ⟨#[108, 111, 111, 112, 115]⟩
def weiB : ByteArray := ⟨#[10, 119, 101, 105, 103, 104, 116, 115, 32]⟩
def lpW (l : Int) (w : ByteArray) : Nat → ByteArray
  | 0 => w
  | i + 1 => if loopB l i = true then lpW l w i ++ (sepB ++ decB i) else lpW l w i
theorem lpW_size (l : Int) (w : ByteArray) : ∀ i : Nat, i ≤ 5 → w.size ≤ (lpW l w i).size ∧ (lpW l w i).size ≤ w.size + i * 22
  | 0, _ => ⟨Nat.le_refl _, by simp [lpW]⟩
  | i + 1, h => by
    have ih := lpW_size l w i (by omega)
    have hd := decB_size i (by omega) (by omega)
    have hs : sepB.size = 1 := rfl
    rw [lpW]
    split
    · simp only [ByteArray.size_append]; omega
    · omega
theorem grT_sz {e : Int} {n : Nat} (h : n ≤ 5) : (grT e n).size ≤ 1200 := by
  have := edT_take (e := e) h (pairsE e n).length
  rw [List.take_length] at this
  exact this
def patW0 (n : Nat) (e : Int) : ByteArray := patB ++ grT e n ++ lineB ++ loopsB
def patT (n : Nat) (e l : Int) (ps : List Fr) : ByteArray := lpW l (patW0 n e) n ++ (weiB ++ fracsT ps ++ lineB)
theorem patOk_in {n e l : Int} {ps : List Fr} (h : patOk n e l ps = true) : (1 ≤ n ∧ n ≤ 4) ∧ (ps.length : Int) = n ∧ allOk ps = true ∧ graphOk n e = true := by
  unfold patOk at h
  simp only [Bool.and_eq_true, decide_eq_true_eq] at h
  obtain ⟨⟨⟨⟨⟨hg, hlo⟩, hn⟩, hall⟩, _⟩, _⟩ := h
  exact ⟨(of_decide_eq_true hlo).1, hn, hall, hg⟩
theorem patW0_size {n : Nat} {e : Int} (h : n ≤ 5) : 13 ≤ (patW0 n e).size ∧ (patW0 n e).size ≤ 1300 := by
  have h1 := grT_sz (e := e) h
  have h2 : patB.size = 8 := rfl
  have h3 : lineB.size = 1 := rfl
  have h4 : loopsB.size = 5 := rfl
  unfold patW0
  simp only [ByteArray.size_append]
  omega
noncomputable def sp_patTx : List (Option (List AV)) → List AV → Option (AV × List (Option (List AV))) := pv (pf (ι := (Nat) × (Int) × (Int) × (List Fr)) (α := AV × List (Option (List AV))) (fun ⟨n, e, l, ps⟩ => patOk n e l ps = true ∧ (0 ≤ e ∧ e ≤ 4294967295) ∧ (0 ≤ l ∧ l ≤ 4294967295)) (fun i => .agg (((fun ⟨n, e, l, ps⟩ => [some [.int .i64 n, .int .u32 e, .int .u32 l, .sl (frsA ps) false]] : (Nat) × (Int) × (Int) × (List Fr) → List (Option (List AV))) i).map enO) :: (fun ⟨n, e, l, ps⟩ => [.ptr 0 0] : (Nat) × (Int) × (Int) × (List Fr) → List AV) i) (fun ⟨n, e, l, ps⟩ => (.str (patT n e l ps), [some [.int .i64 n, .int .u32 e, .int .u32 l, .sl (frsA ps) false]])))
theorem sp_patTx_eq (n : Nat) (e l : Int) (ps : List Fr) (h : patOk n e l ps = true ∧ (0 ≤ e ∧ e ≤ 4294967295) ∧ (0 ≤ l ∧ l ≤ 4294967295)) : sp_patTx [some [.int .i64 n, .int .u32 e, .int .u32 l, .sl (frsA ps) false]] [.ptr 0 0] = some (.str (patT n e l ps), [some [.int .i64 n, .int .u32 e, .int .u32 l, .sl (frsA ps) false]]) := by
  unfold sp_patTx pv
  exact pf_eq (ι := (Nat) × (Int) × (Int) × (List Fr)) (α := AV × List (Option (List AV))) (n, e, l, ps) h (by rintro ⟨n', e', l', ps'⟩ _ e; simp_all [enO, Int.natCast_inj])
set_option maxHeartbeats 1000000 in
theorem v_impl_Pattern_text : QV PP 18 sp_patTx := by
  refine QV_pf fun i h => ?_
  obtain ⟨n, e, l, ps⟩ := i
  replace h : patOk n e l ps = true ∧ (0 ≤ e ∧ e ≤ 4294967295) ∧ (0 ≤ l ∧ l ≤ 4294967295) := h
  refine H_code (Quiet.q1 q_impl_Graph_text (Quiet.q1 q_impl_decimal (Quiet.q1 q_impl_fractionsText (Quiet.e1 e_strings_Builder_WriteString (Quiet.e1 v_impl_Pattern_loop.toE (Quiet.e1 e_strings_Builder_String Quiet.nil)))))) hmix k_impl_Pattern_text rfl (fun b => b) (by simp [AHeap.n]) (fun _ _ => rfl) (by rfl) (by first | rfl | simp) ?_
  show wpc _ PP _ c_impl_Pattern_text (initSt [.ptr 0 0] ⟨[some [.int .i64 n, .int .u32 e, .int .u32 l, .sl (frsA ps) false]]⟩) (endH (fun b => b) r_impl_Pattern_text (.str (patT n e l ps)) [some [.int .i64 n, .int .u32 e, .int .u32 l, .sl (frsA ps) false]])
  obtain ⟨hok, he, hl⟩ := h
  obtain ⟨hn, hlen, hall, hg⟩ := patOk_in hok
  have hn5 : n ≤ 5 := by omega
  have ht := sp_graphTx_eq n e ⟨hn5, he⟩
  have hf := sp_fracsText_eq ps ⟨hall, by omega⟩
  have sg := grT_sz (e := e) hn5
  have sf := fracsT_size hall
  have z1 : 8 + (grT e n).size ≤ 9223372036854775807 := by omega
  have z2 : 8 + (grT e n).size + 1 ≤ 9223372036854775807 := by omega
  have z3 : 8 + (grT e n).size + 1 + 5 ≤ 9223372036854775807 := by omega
  have z4 : 8 + (grT e n).size + 1 + 5 ≤ 140737488355328 := by omega
  unfold patT
  simp -dsimp -implicitDefEqProofs [c_impl_Pattern_text, r_impl_Pattern_text, ht, z1, z2, z3, z4, ws_fresh, wsR]
  refine wpLoop_st (fun (i : Nat) => ⟨tl [(0, .ptr 0 0), (3, .ep (.ptr 1 0) 74 0), (19, .int .i64 n), (20, .int .i64 i)], ⟨[some [.int .i64 n, .int .u32 e, .int .u32 l, .sl (frsA ps) false], some [.ptr 1 0, .ref 2 1 0 (lpW l (patW0 n e) i).size .u8], some (bytesA (lpW l (patW0 n e) i))]⟩⟩) (fun i => i ≤ n) (fun i => n - i) 0 (Nat.zero_le _) (Sub.keep (by simp) (by simp [hsub, lpW, patW0, patB, lineB, loopsB]) (by simp)) ?_
  intro i hi
  have sw := patW0_size (e := e) hn5
  have sz := lpW_size l (patW0 n e) i (by omega)
  simp -dsimp -implicitDefEqProofs
  refine brW_of (fun h => ?_) (fun h => ?_) <;> simp only [decide_eq_true_eq, decide_eq_false_iff_not] at h
  · have hx : i < n := by omega
    have hwi := wrapNat (i := i) (by omega)
    have hlp := sp_loopP_eq n e l ps i ⟨hl, by omega, by omega⟩
    have hes : lpW l (patW0 n e) (i + 1) = if loopB l i = true then lpW l (patW0 n e) i ++ (sepB ++ decB i) else lpW l (patW0 n e) i := rfl
    generalize lpW l (patW0 n e) i = W at *
    cases hb : loopB l i with
    | false =>
      rw [hb] at hlp hes
      have hes : lpW l (patW0 n e) (i + 1) = W := hes
      simp -dsimp -implicitDefEqProofs [hx, hlp, hwi]
      exact .mk (i + 1) (by omega) (by omega) (Sub.keep (by simp) (by simp [hsub, hes]) (by simp [hwi]))
    | true =>
      rw [hb] at hlp hes
      have hes : lpW l (patW0 n e) (i + 1) = W ++ (sepB ++ decB i) := hes
      have hd := sp_decimal_eq i (by omega)
      have sd := decB_size i (by omega) (by omega)
      have y1 : 1 + (decB i).size ≤ 9223372036854775807 := by omega
      have y2 : W.size + (1 + (decB i).size) ≤ 140737488355328 := by omega
      have y3 : W.size ≠ 0 := by omega
      simp -dsimp -implicitDefEqProofs [hx, hlp, hwi, hd, y1, y2, y3, ws_used, wsR, ← bytesA_app]
      exact .mk (i + 1) (by omega) (by omega) (Sub.mk' (fun b => if b = 2 then 3 else b) (by simp) (by intro b hb; simp at hb; subst hb; rfl) (by rfl) (by simp [hsub, hes, sepB]) (by simp [hwi]))
  · obtain rfl : i = n := by omega
    have y1 : 9 + (fracsT ps).size ≤ 9223372036854775807 := by omega
    have y2 : 9 + (fracsT ps).size + 1 ≤ 9223372036854775807 := by omega
    generalize lpW l (patW0 i e) i = W at *
    have y3 : W.size + (9 + (fracsT ps).size + 1) ≤ 140737488355328 := by omega
    have y4 : W.size ≠ 0 := by omega
    simp -dsimp -implicitDefEqProofs [hf, y1, y2, y3, y4, ws_used, wsR, ← bytesA_app, bs_used, weiB, lineB, hsub]
end Go.Proofs.YtlglgcmpeabdnaaDoorAi
end

section
/- The law of ValidPattern. -/
namespace Go.Proofs.YtlglgcmpeabdnaaDoorAi
open Go Go.RowKit
set_option linter.unusedVariables false
set_option linter.unusedSimpArgs false

theorem wt_list {α : Type} {f : α → AV} {t : Ty} (hf : ∀ y, WtV t y → ∃ x, y = f x) : ∀ {xs : List AV}, (∀ y ∈ xs, WtV t y) → ∃ l, xs = mapA f l
  | [], _ => ⟨[], rfl⟩
  | x :: xs, h => by
    obtain ⟨l, hl⟩ := wt_list hf fun y hy => h y (List.mem_cons_of_mem _ hy)
    obtain ⟨a, rfl⟩ := hf x (h x (List.mem_cons_self ..))
    exact ⟨a :: l, by rw [hl]; rfl⟩
abbrev tyFr : Ty := .st [.int .i64, .int .i64]
theorem wt_fr (y : AV) (h : WtV tyFr y) : ∃ x, y = frA x := by
  simp only [tyFr, WtV_st, WtL_int, WtL_nil] at h
  obtain ⟨_, rfl, p, _, rfl, _, q, _, rfl, _, rfl⟩ := h
  exact ⟨⟨p, q⟩, rfl⟩
abbrev tyPattern : Ty := .st [.st [.int .i64, .int .u32], .int .u32, .sl tyFr]
theorem wt_pattern {x : AV} (h : WtV tyPattern x) : ∃ n e l ps, x = .agg [.int .i64 n, .int .u32 e, .int .u32 l, .sl (frsA ps) false] ∧ ((0 ≤ e ∧ e ≤ 4294967295) ∧ (0 ≤ l ∧ l ≤ 4294967295) ∧ ps.length ≤ maxLen) := by
  simp only [tyPattern, WtV_st, WtL_st, WtL_int, WtL_sl, WtL_nil] at h
  obtain ⟨_, rfl, _, _, rfl, ⟨n, _, rfl, _, e, _, rfl, he, rfl⟩, l, _, rfl, hl, xs, _, rfl, ⟨hlen, hx⟩, rfl⟩ := h
  obtain ⟨ps, rfl⟩ := wt_list (t := tyFr) wt_fr (by simpa only [tyFr, WtV_st, WtL_int, WtL_nil] using hx)
  exact ⟨n, e, l, ps, rfl, ⟨by simpa [IntKind.min, IntKind.signed] using he.1, by simpa [IntKind.max, IntKind.signed, IntKind.bits] using he.2⟩, ⟨by simpa [IntKind.min, IntKind.signed] using hl.1, by simpa [IntKind.max, IntKind.signed, IntKind.bits] using hl.2⟩, by simpa using hlen⟩

end Go.Proofs.YtlglgcmpeabdnaaDoorAi
end

section
/- The law of EvenPattern. -/
namespace Go.Proofs.YtlglgcmpeabdnaaDoorAi
open Go Go.RowKit
set_option linter.unusedVariables false
set_option linter.unusedSimpArgs false
set_option maxRecDepth 20000

@[simp] theorem evenL_len (n : Int) : (evenL n).length = n.toNat := by simp [evenL]
end Go.Proofs.YtlglgcmpeabdnaaDoorAi
end

section
/- Contracts: texts of patterns; the law PatternText. -/
namespace Go.Proofs.YtlglgcmpeabdnaaDoorAi
open Go Go.RowKit
set_option linter.unusedVariables false
set_option linter.unusedSimpArgs false
set_option maxRecDepth 20000

def patTT (n e l : Int) (ps : List Fr) : ByteArray := if patOk n e l ps = true then patT n.toNat e l ps else noB
noncomputable def sp_patText : List AV → Option (AV) := pf (ι := (Int) × (Int) × (Int) × (List Fr)) (α := AV) (fun ⟨n, e, l, ps⟩ => (0 ≤ e ∧ e ≤ 4294967295) ∧ (0 ≤ l ∧ l ≤ 4294967295) ∧ ps.length ≤ maxLen) (fun ⟨n, e, l, ps⟩ => [.agg [.int .i64 n, .int .u32 e, .int .u32 l, .sl (frsA ps) false]]) (fun ⟨n, e, l, ps⟩ => .str (patTT n e l ps))
theorem sp_patText_eq (n e l : Int) (ps : List Fr) (h : (0 ≤ e ∧ e ≤ 4294967295) ∧ (0 ≤ l ∧ l ≤ 4294967295) ∧ ps.length ≤ maxLen) : sp_patText [.agg [.int .i64 n, .int .u32 e, .int .u32 l, .sl (frsA ps) false]] = some (.str (patTT n e l ps)) := by
  unfold sp_patText
  exact pf_eq (ι := (Int) × (Int) × (Int) × (List Fr)) (α := AV) (n, e, l, ps) h (by rintro ⟨n', e', l', ps'⟩ _ e; simp_all [Int.natCast_inj])
theorem q_impl_PatternText : QP PP 7 sp_patText := by
  refine QP_pf (fun i h => ?_) fun i h => ?_
  · obtain ⟨n, e, l, ps⟩ := i; exact ⟨by first | rfl | simp, by first | rfl | simp⟩
  obtain ⟨n, e, l, ps⟩ := i
  replace h : (0 ≤ e ∧ e ≤ 4294967295) ∧ (0 ≤ l ∧ l ≤ 4294967295) ∧ ps.length ≤ maxLen := h
  refine P_code (Quiet.q1 q_impl_ValidPattern (Quiet.e1 v_impl_Pattern_text.toE Quiet.nil)) hmix k_impl_PatternText rfl ?_ ?_
  · first | rfl | simp
  show wpc 0 PP _ c_impl_PatternText (initSt [.agg [.int .i64 n, .int .u32 e, .int .u32 l, .sl (frsA ps) false]] .nil) (endP r_impl_PatternText (.str (patTT n e l ps)))
  have hv := sp_patOk_eq n e l ps h
  unfold patTT
  cases hb : patOk n e l ps with
  | false =>
    rw [hb] at hv
    simp -dsimp -implicitDefEqProofs [c_impl_PatternText, r_impl_PatternText, hv, noB]
  | true =>
    rw [hb] at hv
    obtain ⟨hn, _⟩ := patOk_in hb
    obtain ⟨m, rfl⟩ := Int.eq_ofNat_of_zero_le (show 0 ≤ n by omega)
    have ht := sp_patTx_eq m e l ps ⟨hb, h.1, h.2.1⟩
    simp -dsimp -implicitDefEqProofs [c_impl_PatternText, r_impl_PatternText, hv, ht]
/-! ### the reference's -/
def wt8B : ByteArray := ⟨#[10, 119, 101, 105, 103, 104, 116, 115]⟩
def wsW (w : ByteArray) (L : List Fr) : ByteArray := L.foldl (fun w x => w ++ (sepB ++ frS x)) w
theorem wsW_snoc (w : ByteArray) (L : List Fr) (i : Nat) (h : i < L.length) : wsW w (L.take (i + 1)) = wsW w (L.take i) ++ (sepB ++ frS L[i]) := by
  unfold wsW
  rw [take_snoc L i h, List.foldl_append]; rfl
theorem fracsT_sn (l : List Fr) (j : Nat) (h : j < l.length) : fracsT (l.take (j + 1)) = if j = 0 then frS l[j] else fracsT (l.take j) ++ (oneB ++ frS l[j]) := by
  unfold fracsT
  rw [take_snoc l j h, List.map_append]
  by_cases e : j = 0
  · subst e
    show joinT ([] ++ [frS l[0]]) oneB = _
    rw [List.nil_append, joinT_one]
    rfl
  · rw [if_neg e]
    have : (l.take j).map frS ≠ [] := by
      intro h0
      have h1 := congrArg List.length h0
      simp at h1
      rcases h1 with h1 | h1
      · exact e h1
      · subst h1; simp at h
    exact joinT_snoc _ _ _ this
theorem wsW_join (w : ByteArray) (L : List Fr) : ∀ j, 0 < j → j ≤ L.length → wsW w (L.take j) = w ++ (sepB ++ fracsT (L.take j))
  | 0, h, _ => absurd h (Nat.lt_irrefl 0)
  | j + 1, _, h => by
    rw [wsW_snoc w L j h, fracsT_sn L j h]
    by_cases hj : j = 0
    · subst hj; rfl
    · rw [if_neg hj, wsW_join w L j (by omega) (by omega)]
      simp only [ByteArray.append_assoc]
      rfl
theorem wsW_size (L : List Fr) (h : allOk L = true) : ∀ (w : ByteArray), w.size ≤ (wsW w L).size ∧ (wsW w L).size ≤ w.size + L.length * 44 := by
  induction L with
  | nil => intro w; exact ⟨Nat.le_refl _, by simp [wsW]⟩
  | cons x r ih =>
    intro w
    have h1 := ih (by unfold allOk at *; rw [List.all_cons, Bool.and_eq_true] at h; exact h.2) (w ++ (sepB ++ frS x))
    have h2 := frS_size (allOk_get h x (List.mem_cons_self ..))
    have h3 : sepB.size = 1 := rfl
    show w.size ≤ (wsW (w ++ (sepB ++ frS x)) r).size ∧ (wsW (w ++ (sepB ++ frS x)) r).size ≤ _
    simp only [ByteArray.size_append] at h1
    rw [List.length_cons]
    omega
theorem patT_eq (n : Nat) (e l : Int) (ps : List Fr) (h : ps ≠ []) : wsW (lpW l (patW0 n e) n ++ wt8B) ps ++ lineB = patT n e l ps := by
  have := wsW_join (lpW l (patW0 n e) n ++ wt8B) ps ps.length (List.length_pos_iff.2 h) (Nat.le_refl _)
  rw [List.take_length] at this
  rw [this]
  unfold patT
  have e1 : weiB = wt8B ++ sepB := by apply ByteArray.ext; rfl
  rw [e1]
  simp only [ByteArray.append_assoc]
theorem w0_eq (m : Nat) (e l : Int) : (⟨#[112, 97, 116, 116, 101, 114, 110, 32]⟩ : ByteArray) ++ grT e m ++ ⟨#[10, 108, 111, 111, 112, 115]⟩ = lpW l (patW0 m e) 0 := by
  show patB ++ grT e m ++ (⟨#[10, 108, 111, 111, 112, 115]⟩ : ByteArray) = patB ++ grT e m ++ lineB ++ loopsB
  have e1 : (⟨#[10, 108, 111, 111, 112, 115]⟩ : ByteArray) = lineB ++ loopsB := by apply ByteArray.ext; rfl
  rw [e1]
  simp only [ByteArray.append_assoc]
set_option maxHeartbeats 1000000 in
theorem q_spec_PatternText : QP PP 5 sp_patText := by
  refine QP_pf (fun i h => ?_) fun i h => ?_
  · obtain ⟨n, e, l, ps⟩ := i; exact ⟨by first | rfl | simp, by first | rfl | simp⟩
  obtain ⟨n, e, l, ps⟩ := i
  replace h : (0 ≤ e ∧ e ≤ 4294967295) ∧ (0 ≤ l ∧ l ≤ 4294967295) ∧ ps.length ≤ maxLen := h
  refine P_code (Quiet.q1 q_spec_GraphText (Quiet.q1 q_spec_Decimal (Quiet.q1 q_spec_FractionText (Quiet.e1 m_spec_l07Ok.toE (Quiet.e1 v_spec_l07Joined.toE Quiet.nil))))) hmix k_spec_PatternText rfl ?_ ?_
  · first | rfl | simp
  show wpc 0 PP _ c_spec_PatternText (initSt [.agg [.int .i64 n, .int .u32 e, .int .u32 l, .sl (frsA ps) false]] .nil) (endP r_spec_PatternText (.str (patTT n e l ps)))
  have hv := sp_l07Ok_eq n e l ps h
  unfold patTT
  cases hb : patOk n e l ps with
  | false =>
    rw [hb] at hv
    simp -dsimp -implicitDefEqProofs [c_spec_PatternText, r_spec_PatternText, hv, noB]
  | true =>
    rw [hb] at hv
    obtain ⟨hn, hlen, hall, hg⟩ := patOk_in hb
    obtain ⟨m, rfl⟩ := Int.eq_ofNat_of_zero_le (show 0 ≤ n by omega)
    obtain ⟨he, hl, _⟩ := h
    have hm5 : m ≤ 5 := by omega
    have ht := sp_graphText_eq m e he
    unfold graphT at ht
    rw [if_pos hg, Int.toNat_natCast] at ht
    have sg := grT_sz (e := e) hm5
    have z1 : 8 + (grT e m).size ≤ 9223372036854775807 := by omega
    have z2 : 8 + (grT e m).size + 6 ≤ 9223372036854775807 := by omega
    have hne : ps ≠ [] := by intro h0; rw [h0] at hlen; simp at hlen; omega
    have hfin := patT_eq m e l ps hne
    rw [if_pos rfl, Int.toNat_natCast, ← hfin]
    simp -dsimp -implicitDefEqProofs [c_spec_PatternText, r_spec_PatternText, hv, ht, z1, z2]
    refine wpLoop_st (fun (i : Nat) => ⟨tl [(1, .ptr 0 0), (3, .str (lpW l (patW0 m e) i)), (4, .int .i64 i)], ⟨[some [.int .i64 m, .int .u32 e, .int .u32 l, .sl (frsA ps) false]]⟩⟩) (fun i => i ≤ m) (fun i => m - i) 0 (Nat.zero_le _) (Sub.keep (by simp) (by simp [hsub]) (by simp; exact w0_eq m e l)) ?_
    intro i hi
    have sw := patW0_size (e := e) hm5
    have sz := lpW_size l (patW0 m e) i (by omega)
    simp -dsimp -implicitDefEqProofs
    refine brW_of (fun h => ?_) (fun h => ?_) <;> simp only [decide_eq_true_eq, decide_eq_false_iff_not] at h
    · have hx : i < m := by omega
      have hwi := wrapNat (i := i) (by omega)
      have hlp := sp_joinP_eq m e l ps i i ⟨⟨he, hl⟩, ⟨by omega, by omega⟩, ⟨by omega, by omega⟩⟩
      have hjb : joinB e l i i = loopB l i := by unfold joinB; rw [if_pos rfl]
      rw [hjb] at hlp
      have hes : lpW l (patW0 m e) (i + 1) = if loopB l i = true then lpW l (patW0 m e) i ++ (sepB ++ decB i) else lpW l (patW0 m e) i := rfl
      generalize lpW l (patW0 m e) i = W at *
      cases hb : loopB l i with
      | false =>
        rw [hb] at hlp hes
        have hes : lpW l (patW0 m e) (i + 1) = W := hes
        simp -dsimp -implicitDefEqProofs [hx, hlp, hwi]
        exact .mk (i + 1) (by omega) (by omega) (Sub.keep (by simp) (by simp [hsub]) (by simp [hwi, hes]))
      | true =>
        rw [hb] at hlp hes
        have hes : lpW l (patW0 m e) (i + 1) = W ++ (sepB ++ decB i) := hes
        have hd := sp_decS_eq i (by omega)
        have sd := decB_size i (by omega) (by omega)
        have y1 : 1 + (decB i).size ≤ 9223372036854775807 := by omega
        have y2 : W.size + (1 + (decB i).size) ≤ 9223372036854775807 := by omega
        simp -dsimp -implicitDefEqProofs [hx, hlp, hwi, hd, y1, y2]
        exact .mk (i + 1) (by omega) (by omega) (Sub.keep (by simp) (by simp [hsub]) (by simp [hwi, hes, sepB]))
    · obtain rfl : i = m := by omega
      generalize lpW l (patW0 i e) i = W at *
      have y1 : W.size + 8 ≤ 9223372036854775807 := by omega
      simp -dsimp -implicitDefEqProofs [y1]
      refine wpLoop_st (fun (j : Nat) => ⟨tl [(1, .ptr 0 0), (3, .str (wsW (W ++ wt8B) (ps.take j))), (5, .int .i64 j)], ⟨[some [.int .i64 i, .int .u32 e, .int .u32 l, .sl (frsA ps) false]]⟩⟩) (fun j => j ≤ ps.length) (fun j => ps.length - j) 0 (Nat.zero_le _) (Sub.keep (by simp) (by simp [hsub]) (by simp [wsW, wt8B])) ?_
      intro j hj
      have s8 : (W ++ wt8B).size = W.size + 8 := by rw [ByteArray.size_append]; rfl
      have hta : allOk (ps.take j) = true := by
        unfold allOk
        exact List.all_eq_true.2 fun x hx' => allOk_get hall x (List.mem_of_mem_take hx')
      have sz2 := wsW_size (ps.take j) hta (W ++ wt8B)
      have stk : (ps.take j).length ≤ 4 := by rw [List.length_take]; omega
      simp -dsimp -implicitDefEqProofs
      refine brW_of (fun h => ?_) (fun h => ?_) <;> simp only [decide_eq_true_eq, decide_eq_false_iff_not] at h
      · have hx : j < ps.length := by omega
        have hwj := wrapNat (i := j) (by omega)
        have hoj := allOk_get hall ps[j] (List.getElem_mem hx)
        have hft := sp_fracText_eq ps[j].p ps[j].q
        have e7 : fracT ps[j].p ps[j].q = frS ps[j] := by unfold fracT; rw [if_pos hoj]; rfl
        rw [e7] at hft
        have s5 := frS_size hoj
        have hsn := wsW_snoc (W ++ wt8B) ps j hx
        generalize wsW (W ++ wt8B) (ps.take j) = V at *
        have y2 : 1 + (frS ps[j]).size ≤ 9223372036854775807 := by omega
        have y3 : V.size + (1 + (frS ps[j]).size) ≤ 9223372036854775807 := by omega
        simp -dsimp -implicitDefEqProofs [hx, hwj, hft, y2, y3, e7]
        exact .mk (j + 1) (by omega) (by omega) (Sub.keep (by simp) (by simp [hsub]) (by simp [hwj, hsn, sepB, e7]))
      · obtain rfl : j = ps.length := by omega
        rw [List.take_length] at *
        have y2 : (wsW (W ++ wt8B) ps).size + 1 ≤ 9223372036854775807 := by omega
        simp -dsimp -implicitDefEqProofs [y2, lineB]
set_option maxHeartbeats 2000000 in
theorem law_patternText (xs : List AV) (h : WtA [tyPattern] xs) : T PP 3 xs .nil fun r _ => r = .bool true := by
  simp only [WtA_cons, WtA_nil] at h
  obtain ⟨x, _, rfl, hx, rfl⟩ := h
  obtain ⟨n, e, l, ps, rfl, h⟩ := wt_pattern hx
  refine (P_code (r := .bool true) (Quiet.q1 q_laws_szPattern (Quiet.q1 q_laws_toPattern (Quiet.q1 q_spec_PatternText (Quiet.q1 q_impl_PatternText (Quiet.q1 q_laws_eqPattern Quiet.nil))))) hmix k_laws_FnExactPatternText rfl rfl ?_).mono fun r A' h => h.1
  have hz := sp_szPattern_eq n e l ps 1048576 ⟨by omega, by omega, h.2.2⟩
  by_cases c : (ps.length : Int) ≤ 1048576
  · rw [if_pos c] at hz
    have c2 : ¬ ((1048576 : Int) - ps.length < 0) := by omega
    have hq := sp_eqPattern_eq n e l ps n e l ps h.2.2
    simp -dsimp -implicitDefEqProofs [c_laws_FnExactPatternText, r_laws_FnExactPatternText, hz, c, c2, sp_toPattern_eq n e l ps (by omega), sp_patText_eq n e l ps h, hq, bne_ba]
  · rw [if_neg c] at hz
    simp -dsimp -implicitDefEqProofs [c_laws_FnExactPatternText, r_laws_FnExactPatternText, hz]
end Go.Proofs.YtlglgcmpeabdnaaDoorAi
end
