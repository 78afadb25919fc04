/- copy, clear, comparisons with nil. -/
import Derived.Test.YtllahdjejcideaaAiM
import Derived.WalkSpells
namespace Go.Proofs.YtllahdjejcideaaAi
open Go Go.RowKit
set_option linter.unusedVariables false
set_option linter.unusedSimpArgs false

variable {P : Program} {σ : Sg} {w : World}

theorem cpy_run {B : Nat → Prop} {w0 : World} {A : AHeap} (h : Sim B σ A w) (hb : Keeps B w0 w) {t u ty e : TypeId} (hu : P.underlying t = some (.slice e)) {esz : Nat} (hn : szT P e = some esz) (hpos : 0 < esz)
    {b o n : Nat} {tt : Cp} {y : AV} {v q : Value} (hx : Rep σ (.ref b esz o n tt) v) (hy : Rep σ y q) {ys : List AV} (hys : sliceCells A esz y = some ys) {m : Nat} (hm : y.len? = some m) {cs : List AV} (hcs : A b = some cs) (hfit : (o + min n m) * esz ≤ cs.length) :
    ∃ w', (Builtin.copy_ #[t, u] ty #[v, q]).run P w = .ok (.int .i64 (min n m : Nat)) w' ∧ Step B w0 σ (A.set b (setCells cs (o * esz) (ys.take (min n m * esz)))) (.int .i64 (min n m : Nat)) (.int .i64 (min n m : Nat)) w' := by
  obtain ⟨us, hr, h1, hul, hyl, hlen, hf⟩ := src_run (P := P) h hpos hy hys hm
  obtain ⟨ad, cap, c0, sz, rfl, h3, h4, h5, h6, h7, h8, h9⟩ := hx.refInv
  have hmin : Nat.min m n = min n m := Nat.min_comm m n
  have hff := hf (min n m) (Nat.min_le_right _ _) w rfl
  have htl : (ys.take (min n m * esz)).length = min n m * esz := by
    rw [List.length_take, hyl]
    exact Nat.min_eq_left (Nat.mul_le_mul_right _ (Nat.min_le_right _ _))
  have hst : ∃ w', (storeCells ad (us.take (min n m * esz))).run P w = .ok () w' ∧ Sim B σ (A.set b (setCells cs (o * esz) (ys.take (min n m * esz)))) w' ∧ Keeps B w0 w' := by
    by_cases h0 : min n m = 0
    · rw [h0]
      simp only [Nat.zero_mul, List.take_zero, setCells]
      rw [AHeap.set_eq hcs]
      exact ⟨w, by simp [storeCells], h, hb⟩
    · have had := h6 (by omega)
      subst had
      exact store_run h hb hcs h7 (hr.take _) (fun v hv => h1 v (List.mem_of_mem_take hv)) (by rw [htl, ← Nat.add_mul]; exact hfit)
  obtain ⟨w', s1, s2, s3⟩ := hst
  refine ⟨w', ?_, σ, .refl σ, s2, .int _ _, s3⟩
  have hlen' := hlen w
  have hsz : (sizeOf e).run P w = .ok esz w := run_sizeOf hn w
  simp [Builtin.copy_, run_underlying hu, hlen', hsz, hmin, hff, s1, goInt]

theorem clr_run {B : Nat → Prop} {w0 : World} {A : AHeap} (h : Sim B σ A w) (hb : Keeps B w0 w) {t ty e : TypeId} (hu : P.underlying t = some (.slice e)) {esz : Nat} (hn : szT P e = some esz) {z : List AV} (hz : zeroT P e = some z) (hzl : z.length = esz)
    {b o n : Nat} {tt : Cp} {v : Value} (hx : Rep σ (.ref b esz o n tt) v) {cs : List AV} (hcs : A b = some cs) (hfit : (o + n) * esz ≤ cs.length) :
    ∃ w', (Builtin.clear_ #[t] ty #[v]).run P w = .ok (.tuple #[]) w' ∧ Step B w0 σ (A.set b (setCells cs (o * esz) (newCells esz n z))) (.tup []) (.tuple #[]) w' := by
  obtain ⟨ad, cap, c0, sz, rfl, h3, h4, h5, h6, h7, h8, h9⟩ := hx.refInv
  obtain ⟨zv, hzv, hzr, hz1⟩ := zeroT_run (σ := σ) hz
  obtain ⟨hz2, hz3⟩ := zeros_rep (n := n) hzr hz1 hzl
  have hzc : zv.cells.size = esz := by have := hzr.1; simp at this; omega
  by_cases h0 : n = 0
  · subst h0
    have : setCells cs (o * esz) (newCells esz 0 z) = cs := by simp [newCells, setCells]
    rw [this, AHeap.set_eq hcs]
    exact ⟨w, by simp [Builtin.clear_, run_underlying hu], σ, .refl σ, h, .tup [] [] rfl (by simp), hb⟩
  · have had := h6 (by omega)
    subst had
    have hlen : (newCells esz n z).length = n * esz := by rw [newCells, flat_len, hzl]
    obtain ⟨w', s1, s2, s3⟩ := store_run (P := P) h hb (off := o * esz) hcs h7 hz2 hz3 (by rw [hlen, ← Nat.add_mul]; exact hfit)
    refine ⟨w', ?_, σ, .refl σ, s2, .tup [] [] rfl (by simp), s3⟩
    have hzz : (Builtin.zeroCells zv.cells n) = madeCells zv.cells (n * esz) := by rw [← hzc]; rfl
    obtain ⟨k, rfl⟩ := Nat.exists_eq_succ_of_ne_zero h0
    simp [Builtin.clear_, run_underlying hu, hzv, hzz, s1]

end Go.Proofs.YtllahdjejcideaaAi
