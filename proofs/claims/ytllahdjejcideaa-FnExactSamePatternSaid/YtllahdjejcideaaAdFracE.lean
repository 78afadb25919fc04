/- The law of SamePattern. -/
import Derived.Test.YtllahdjejcideaaAdFracD
namespace Go.Proofs.YtllahdjejcideaaAi
open Go Go.RowKit
set_option linter.unusedVariables false
set_option linter.unusedSimpArgs false

theorem wt_frs {xs : List AV} (h : ∀ y ∈ xs, WtV (.st [.int .i64, .int .i64]) y) : ∃ ps, xs = frsA ps := by
  induction xs with
  | nil => exact ⟨[], rfl⟩
  | cons x xs ih =>
    obtain ⟨ps, rfl⟩ := ih fun y hy => h y (List.mem_cons_of_mem _ hy)
    have hx := h x (List.mem_cons_self ..)
    simp only [WtV_st, WtL_int, WtL_nil] at hx
    obtain ⟨_, rfl, p, _, rfl, _, q, _, rfl, _, rfl⟩ := hx
    exact ⟨(p, q) :: ps, rfl⟩

abbrev tyPattern : Ty := .st [.st [.int .i64, .int .u32], .int .u32, .sl (.st [.int .i64, .int .i64])]
theorem wt_pattern {x : AV} (h : WtV tyPattern x) : ∃ n e l ps, x = ptA n e l ps false ∧ ps.length ≤ maxLen := by
  simp only [tyPattern, WtV_st, WtL_st, WtL_int, WtL_sl, WtL_nil] at h
  obtain ⟨_, rfl, _, _, rfl, ⟨n, _, rfl, _, e, _, rfl, _, rfl⟩, l, _, rfl, _, xs, _, rfl, ⟨hl, hx⟩, rfl⟩ := h
  obtain ⟨ps, rfl⟩ := wt_frs (by simpa only [WtV_st, WtL_int, WtL_nil] using hx)
  exact ⟨n, e, l, ps, rfl, by simpa using hl⟩

theorem sp_szPattern_eq (n e l m : Int) (ps : List (Int × Int)) (t : Bool) (h0 : 0 ≤ m) (h1 : m ≤ 1048576) (h2 : ps.length ≤ maxLen) : sp_szPattern [ptA n e l ps t, .int .i64 m] = some (.int .i64 (if (ps.length : Int) ≤ m then m - ps.length else -1)) := by
  simp [sp_szPattern, ptA, h0, h1, h2]

theorem law_samePattern (xs : List AV) (h : WtA [tyPattern, tyPattern] xs) : T PP 4 xs (fun _ => none) fun r _ => r = .bool true := by
  simp only [WtA_cons, WtA_nil] at h
  obtain ⟨x, _, rfl, hx, y, _, rfl, hy, rfl⟩ := h
  obtain ⟨n, e, l, ps, rfl, hp⟩ := wt_pattern hx
  obtain ⟨n', e', l', qs, rfl, hq⟩ := wt_pattern hy
  refine (Q_code (r := .bool true) (Quiet.cons q_szPattern (Quiet.cons q_toPattern (Quiet.cons q_spec_SamePattern (Quiet.cons q_impl_SamePattern (Quiet.cons q_eqPattern Quiet.nil))))) hmix k_laws_FnExactSamePattern rfl ?_).mono fun r A' h => h.1
  have hA : ∀ b : Nat, (fun _ => none : AHeap) b = none := fun _ => rfl
  generalize (fun _ => none : AHeap) = A at hA
  have hle : ∀ A' : AHeap, AHeap.le A A' := fun A' i c e => by rw [hA i] at e; cases e
  simp -dsimp -implicitDefEqProofs [c_laws_FnExactSamePattern, r_laws_FnExactSamePattern]
  intro b1 h1
  simp -dsimp -implicitDefEqProofs
  intro b2 h2
  rw [AHeap.set_none] at h2
  have hn := h2.1
  have hn' := Ne.symm h2.1
  by_cases c1 : (ps.length : Int) ≤ 1048576
  · have c1' : ¬ ((1048576 : Int) - ps.length < 0) := by omega
    have hp' : ps.length ≤ 1048576 := by omega
    have d0 : (0 : Int) ≤ 1048576 - ps.length := by omega
    have d1 : (1048576 : Int) - ps.length ≤ 1048576 := by omega
    by_cases c2 : (qs.length : Int) ≤ 1048576 - ps.length
    · have c2' : ¬ ((1048576 : Int) - ps.length - qs.length < 0) := by omega
      have hq' : qs.length ≤ 1048576 := by omega
      simp -dsimp -implicitDefEqProofs [sp_szPattern_eq, *]
      intro b3 h3
      rw [AHeap.set_none, AHeap.set_none] at h3
      have k1 := h3.1
      have k2 := h3.2.1
      have k1' := Ne.symm h3.1
      have k2' := Ne.symm h3.2.1
      simp -dsimp -implicitDefEqProofs [*]
      intro b4 h4
      rw [AHeap.set_none, AHeap.set_none, AHeap.set_none] at h4
      obtain ⟨m1, m2, m3, m4⟩ := h4
      have m1' := Ne.symm m1
      have m2' := Ne.symm m2
      have m3' := Ne.symm m3
      simp -dsimp -implicitDefEqProofs [*]
    · simp -dsimp -implicitDefEqProofs [sp_szPattern_eq, *]
  · simp -dsimp -implicitDefEqProofs [sp_szPattern_eq, *]

end Go.Proofs.YtllahdjejcideaaAi
