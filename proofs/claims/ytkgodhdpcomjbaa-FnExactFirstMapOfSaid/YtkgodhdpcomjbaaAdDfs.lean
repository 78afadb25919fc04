/- Lists in order, element by element; going through lists until one is enough. -/
import Derived.Test.YtkgodhdpcomjbaaAdEnc
namespace Go.Proofs.YtkgodhdpcomjbaaAi
open Go Go.RowKit
set_option linter.unusedVariables false
set_option linter.unusedSimpArgs false

/-- Through a list until one is enough, with a state. -/
def goL {α ι : Type} (en : α → ι → Bool × ι) : List α → ι → Bool × ι
  | [], s => (false, s)
  | x :: r, s => if (en x s).1 = true then (true, (en x s).2) else goL en r (en x s).2
theorem goL_append {α ι : Type} (en : α → ι → Bool × ι) : ∀ (a b : List α) (s : ι), goL en (a ++ b) s = if (goL en a s).1 = true then goL en a s else goL en b (goL en a s).2
  | [], b, s => rfl
  | x :: a, b, s => by
    simp only [List.cons_append, goL]
    split
    · rfl
    · exact goL_append en a b _
theorem goL_one {α ι : Type} (en : α → ι → Bool × ι) (x : α) (s : ι) : goL en [x] s = en x s := by
  simp only [goL]
  split
  · rename_i h; rw [← h]
  · rename_i h
    have : (en x s).1 = false := by simpa using h
    rw [← this]

/-- All lists with so many more elements, of which each next one is right. -/
def dfsL (fit : List Int → Int → Bool) (k : Nat) : Nat → List Int → List (List Int)
  | 0, now => [now]
  | d + 1, now => (List.range k).flatMap fun (x : Nat) => if fit now (x : Int) = true then dfsL fit k d (now ++ [(x : Int)]) else []
theorem flatMap_range_succ {β : Type} (f : Nat → List β) (x : Nat) : (List.range (x + 1)).flatMap f = (List.range x).flatMap f ++ f x := by
  rw [List.range_succ, List.flatMap_append]; simp
/-- What is left behind the first numbers. -/
def restL (fit : List Int → Int → Bool) (k d : Nat) (now : List Int) (x : Nat) : List (List Int) := (List.range' x (k - x)).flatMap fun (y : Nat) => if fit now (y : Int) = true then dfsL fit k d (now ++ [(y : Int)]) else []
theorem restL_zero (fit : List Int → Int → Bool) (k d : Nat) (now : List Int) : restL fit k d now 0 = dfsL fit k (d + 1) now := by
  rw [restL, dfsL, List.range_eq_range', Nat.sub_zero]
theorem restL_step (fit : List Int → Int → Bool) (k d : Nat) (now : List Int) (x : Nat) (h : x < k) : restL fit k d now x = (if fit now (x : Int) = true then dfsL fit k d (now ++ [(x : Int)]) else []) ++ restL fit k d now (x + 1) := by
  unfold restL
  obtain ⟨m, hm⟩ : ∃ m, k - x = m + 1 := ⟨k - x - 1, by omega⟩
  rw [hm, show k - (x + 1) = m by omega, List.range'_succ, List.flatMap_cons]
theorem restL_end (fit : List Int → Int → Bool) (k d : Nat) (now : List Int) : restL fit k d now k = [] := by
  rw [restL, Nat.sub_self]; rfl
theorem dfsL_len {fit : List Int → Int → Bool} {k : Nat} : ∀ {d : Nat} {now l : List Int}, l ∈ dfsL fit k d now → l.length = now.length + d
  | 0, now, l, h => by rw [dfsL, List.mem_singleton] at h; rw [h]; rfl
  | d + 1, now, l, h => by
    rw [dfsL, List.mem_flatMap] at h
    obtain ⟨x, _, hx⟩ := h
    split at hx
    · have := dfsL_len hx; simp at this; omega
    · cases hx
theorem dfsL_range {fit : List Int → Int → Bool} {k : Nat} : ∀ {d : Nat} {now l : List Int}, (∀ x ∈ now, 0 ≤ x ∧ x < k) → l ∈ dfsL fit k d now → ∀ x ∈ l, 0 ≤ x ∧ x < k
  | 0, now, l, hn, h => by rw [dfsL, List.mem_singleton] at h; rw [h]; exact hn
  | d + 1, now, l, hn, h => by
    rw [dfsL, List.mem_flatMap] at h
    obtain ⟨x, hx0, hx⟩ := h
    split at hx
    · refine dfsL_range (fun y hy => ?_) hx
      rw [List.mem_append, List.mem_singleton] at hy
      rcases hy with hy | rfl
      · exact hn y hy
      · have := List.mem_range.1 hx0; omega
    · cases hx
/-- All pairs of a list, as they come: each element fits what is before it. -/
def fitsB (fit : List Int → Int → Bool) : Nat → List Int → Bool
  | 0, _ => true
  | j + 1, l => fitsB fit j l && (match l[j]? with | some x => fit (l.take j) x | none => true)
theorem fitsB_pre (fit : List Int → Int → Bool) : ∀ (j : Nat) (l m : List Int), j ≤ l.length → fitsB fit j (l ++ m) = fitsB fit j l
  | 0, _, _, _ => rfl
  | j + 1, l, m, h => by
    rw [fitsB, fitsB, fitsB_pre fit j l m (by omega), List.getElem?_append_left (by omega), List.take_append_of_le_length (by omega)]
/-- Lists that fit are those among all lists. -/
theorem dfsL_filter (fit : List Int → Int → Bool) (k : Nat) : ∀ (d : Nat) (now : List Int), fitsB fit now.length now = true → dfsL fit k d now = (dfsL (fun _ _ => true) k d now).filter fun l => fitsB fit l.length l
  | 0, now, h => by simp [dfsL, h]
  | d + 1, now, h => by
    rw [dfsL, dfsL, List.filter_flatMap]
    congr 1
    funext x
    simp only [if_true]
    have key : fitsB fit (now.length + 1) (now ++ [(x : Int)]) = fit now x := by
      rw [fitsB, fitsB_pre fit _ now _ (Nat.le_refl _), h]
      simp
    by_cases hf : fit now x = true
    · rw [if_pos hf]
      exact dfsL_filter fit k d _ (by rw [List.length_append]; exact key.trans hf)
    · rw [if_neg hf]
      symm
      rw [List.filter_eq_nil_iff]
      intro l hl hc
      have hpre : ∃ m, l = (now ++ [(x : Int)]) ++ m := by
        clear hc key hf
        generalize now ++ [(x : Int)] = w at hl
        induction d generalizing w with
        | zero => rw [dfsL, List.mem_singleton] at hl; exact ⟨[], by simp [hl]⟩
        | succ d ih =>
          rw [dfsL, List.mem_flatMap] at hl
          obtain ⟨y, _, hy⟩ := hl
          simp only [if_true] at hy
          obtain ⟨m, hm⟩ := ih _ hy
          exact ⟨(y : Int) :: m, by simp [hm]⟩
      obtain ⟨m, rfl⟩ := hpre
      have hmono : ∀ (j i : Nat) (l : List Int), fitsB fit (i + j) l = true → fitsB fit i l = true := by
        intro j
        induction j with
        | zero => intro i l h; exact h
        | succ j ih =>
          intro i l h
          rw [show i + (j + 1) = (i + j) + 1 by omega, fitsB, Bool.and_eq_true] at h
          exact ih i l h.1
      have h2 := hmono ((now ++ [(x : Int)] ++ m).length - (now.length + 1)) (now.length + 1) _ (by
        rw [show now.length + 1 + ((now ++ [(x : Int)] ++ m).length - (now.length + 1)) = (now ++ [(x : Int)] ++ m).length by simp]
        exact hc)
      rw [fitsB_pre fit _ _ _ (by simp), key] at h2
      exact hf h2

/-! ### lists one behind another -/
/-- Each list is followed by the next one, and the last one by none. -/
def chainB (next : List Int → Option (List Int)) : List (List Int) → Bool
  | [] => false
  | [x] => decide (next x = none)
  | x :: y :: r => decide (next x = some y) && chainB next (y :: r)
theorem chainB_get {next : List Int → Option (List Int)} : ∀ {L : List (List Int)}, chainB next L = true → ∀ i x, L[i]? = some x → next x = L[i + 1]?
  | [], h, i, x, e => by simp at e
  | [y], h, i, x, e => by
    cases i with
    | zero => simp at e; subst e; simpa [chainB] using h
    | succ i => simp at e
  | y :: z :: r, h, i, x, e => by
    rw [chainB, Bool.and_eq_true, decide_eq_true_eq] at h
    cases i with
    | zero => simp at e; subst e; simpa using h.1
    | succ i =>
      rw [List.getElem?_cons_succ] at e
      rw [List.getElem?_cons_succ]
      exact chainB_get h.2 i x e
end Go.Proofs.YtkgodhdpcomjbaaAi
