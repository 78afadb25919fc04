/- Data of the program, and how they lie. -/
import Derived.Test.YtkgodhdpcomjbaaAdBase
namespace Go.Proofs.YtkgodhdpcomjbaaAi
open Go Go.RowKit
set_option linter.unusedVariables false
set_option linter.unusedSimpArgs false

structure Fr where
  p : Int
  q : Int
  deriving DecidableEq
structure Gr where
  n : Int
  e : Int
  deriving DecidableEq
structure Fl where
  l : Int
  g : Gr
  deriving DecidableEq

abbrev frA (x : Fr) : AV := .agg [.int .i64 x.p, .int .i64 x.q]
abbrev grA (x : Gr) : AV := .agg [.int .i64 x.n, .int .u32 x.e]
abbrev flA (x : Fl) : AV := .agg [.int .i64 x.l, .int .i64 x.g.n, .int .u32 x.g.e]
abbrev inA (n : Int) : AV := .int .i64 n

/-- A list of encoded data. -/
def mapA {α : Type} (f : α → AV) (l : List α) : List AV := l.map f
@[simp] theorem mapA_length {α : Type} (f : α → AV) (l : List α) : (mapA f l).length = l.length := by simp [mapA]
@[simp] theorem mapA_get {α : Type} (f : α → AV) (l : List α) (i : Nat) : (mapA f l)[i]? = (l[i]?).map f := by simp [mapA]
@[simp] theorem mapA_getElem {α : Type} (f : α → AV) (l : List α) (i : Nat) (h : i < (mapA f l).length) : (mapA f l)[i] = f (l[i]'(by simpa using h)) := by simp [mapA]
theorem mapA_getE {α : Type} (f : α → AV) (l : List α) (i : Nat) (h : i < l.length) : (mapA f l)[i]? = some (f l[i]) := by simp [mapA, h]
theorem mapA_append {α : Type} (f : α → AV) (l k : List α) : mapA f (l ++ k) = mapA f l ++ mapA f k := by simp [mapA]
theorem mapA_inj {α : Type} {f : α → AV} (hf : ∀ x y, f x = f y → x = y) : ∀ {l k : List α}, mapA f l = mapA f k → l = k
  | [], [], _ => rfl
  | [], _ :: _, h => by simp [mapA] at h
  | _ :: _, [], h => by simp [mapA] at h
  | x :: l, y :: k, h => by
    simp only [mapA, List.map_cons, List.cons.injEq] at h
    rw [hf _ _ h.1, mapA_inj hf (show mapA f l = mapA f k from h.2)]
theorem frA_inj (x y : Fr) (h : frA x = frA y) : x = y := by cases x; cases y; simp_all
theorem grA_inj (x y : Gr) (h : grA x = grA y) : x = y := by cases x; cases y; simp_all
theorem flA_inj (x y : Fl) (h : flA x = flA y) : x = y := by rcases x with ⟨_, _, _⟩; rcases y with ⟨_, _, _⟩; simp_all
theorem inA_inj (x y : Int) (h : inA x = inA y) : x = y := by simpa using h
abbrev frsA (l : List Fr) : List AV := mapA frA l
abbrev grsA (l : List Gr) : List AV := mapA grA l
abbrev flsA (l : List Fl) : List AV := mapA flA l
abbrev insA (l : List Int) : List AV := mapA inA l
@[simp] theorem frsA_inj {l k : List Fr} : mapA frA l = mapA frA k ↔ l = k := ⟨mapA_inj frA_inj, fun h => by rw [h]⟩
@[simp] theorem grsA_inj {l k : List Gr} : mapA grA l = mapA grA k ↔ l = k := ⟨mapA_inj grA_inj, fun h => by rw [h]⟩
@[simp] theorem flsA_inj {l k : List Fl} : mapA flA l = mapA flA k ↔ l = k := ⟨mapA_inj flA_inj, fun h => by rw [h]⟩
@[simp] theorem insA_inj {l k : List Int} : mapA inA l = mapA inA k ↔ l = k := ⟨mapA_inj inA_inj, fun h => by rw [h]⟩

theorem take_snoc {α : Type} (ps : List α) (i : Nat) (h : i < ps.length) : ps.take (i + 1) = ps.take i ++ [ps[i]] := by
  rw [List.take_add_one, List.getElem?_eq_getElem h]; rfl
theorem wrapNat {i : Nat} (h : i < 9223372036854775807) : IntKind.i64.wrap ((i : Int) + 1) = (i : Int) + 1 := wrapI64 (by omega) (by omega)

/-- Nothing is forgotten but temporaries: the first objects are the same. -/
theorem Sub.keep {N : Nat} {s : St} {l : List (Nat × AV)} {os : List (Option (List AV))} (hN : N ≤ os.length) (hs : hsub (fun b => b) os.length s.A 0 os) (ht : ∀ p ∈ l, p.2.lt os.length = true ∧ s.t p.1 = p.2) : Sub N s ⟨tl l, ⟨os⟩⟩ := by
  obtain ⟨h1, h2⟩ := hsub_get hs
  refine ⟨fun b => b, hN, fun _ _ => rfl, ⟨fun b hb => by simpa using h1 b hb, fun b cs hb => by simpa using h2 b cs hb, fun b b' cs cs' e1 e2 e => e⟩, tl_sub fun p hp => ⟨(ht p hp).1, by rw [ren_id]; exact (ht p hp).2⟩⟩

end Go.Proofs.YtkgodhdpcomjbaaAi
