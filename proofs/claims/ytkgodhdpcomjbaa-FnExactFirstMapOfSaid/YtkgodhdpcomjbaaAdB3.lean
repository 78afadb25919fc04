/- The law of ValidPattern. -/
import Derived.Test.YtkgodhdpcomjbaaAdB2
namespace Go.Proofs.YtkgodhdpcomjbaaAi
open Go Go.RowKit
set_option linter.unusedVariables false
set_option linter.unusedSimpArgs false

theorem wt_list {α : Type} {f : α → AV} {t : Ty} (hf : ∀ y, WtV t y → ∃ x, y = f x) : ∀ {xs : List AV}, (∀ y ∈ xs, WtV t y) → ∃ l, xs = mapA f l
  | [], _ => ⟨[], rfl⟩
  | x :: xs, h => by
    obtain ⟨l, hl⟩ := wt_list hf fun y hy => h y (List.mem_cons_of_mem _ hy)
    obtain ⟨a, rfl⟩ := hf x (h x (List.mem_cons_self ..))
    exact ⟨a :: l, by rw [hl]; rfl⟩
abbrev tyFr : Ty := .st [.int .i64, .int .i64]
theorem wt_fr (y : AV) (h : WtV tyFr y) : ∃ x, y = frA x := by
  simp only [tyFr, WtV_st, WtL_int, WtL_nil] at h
  obtain ⟨_, rfl, p, _, rfl, _, q, _, rfl, _, rfl⟩ := h
  exact ⟨⟨p, q⟩, rfl⟩
abbrev tyPattern : Ty := .st [.st [.int .i64, .int .u32], .int .u32, .sl tyFr]
theorem wt_pattern {x : AV} (h : WtV tyPattern x) : ∃ n e l ps, x = .agg [.int .i64 n, .int .u32 e, .int .u32 l, .sl (frsA ps) false] ∧ ((0 ≤ e ∧ e ≤ 4294967295) ∧ (0 ≤ l ∧ l ≤ 4294967295) ∧ ps.length ≤ maxLen) := by
  simp only [tyPattern, WtV_st, WtL_st, WtL_int, WtL_sl, WtL_nil] at h
  obtain ⟨_, rfl, _, _, rfl, ⟨n, _, rfl, _, e, _, rfl, he, rfl⟩, l, _, rfl, hl, xs, _, rfl, ⟨hlen, hx⟩, rfl⟩ := h
  obtain ⟨ps, rfl⟩ := wt_list (t := tyFr) wt_fr (by simpa only [tyFr, WtV_st, WtL_int, WtL_nil] using hx)
  exact ⟨n, e, l, ps, rfl, ⟨by simpa [IntKind.min, IntKind.signed] using he.1, by simpa [IntKind.max, IntKind.signed, IntKind.bits] using he.2⟩, ⟨by simpa [IntKind.min, IntKind.signed] using hl.1, by simpa [IntKind.max, IntKind.signed, IntKind.bits] using hl.2⟩, by simpa using hlen⟩

end Go.Proofs.YtkgodhdpcomjbaaAi
