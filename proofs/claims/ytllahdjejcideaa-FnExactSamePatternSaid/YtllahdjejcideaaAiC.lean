/- First facts on the relation of abstract values and memory. -/
import Derived.Test.YtllahdjejcideaaAiB
namespace Go.Proofs.YtllahdjejcideaaAi
open Go Go.RowKit
set_option linter.unusedVariables false
set_option linter.unusedSimpArgs false

theorem Sg.Le.refl (σ : Sg) : σ.Le σ := ⟨fun _ _ h => h, fun _ _ h => h⟩
theorem Sg.Le.trans {a b c : Sg} (h : a.Le b) (k : b.Le c) : a.Le c := ⟨fun _ _ e => k.mem _ _ (h.mem _ _ e), fun _ _ e => k.size _ _ (h.size _ _ e)⟩
theorem Sg.Le.cell {σ σ' : Sg} (h : σ.Le σ') {b off : Nat} {v : Value} (e : σ.cell b off = some v) : σ'.cell b off = some v := by
  unfold Sg.cell at *
  cases hm : σ.mem b with
  | none => simp [hm] at e
  | some o => rw [h.mem b o hm]; rw [hm] at e; exact e

theorem Rep.mono {σ σ' : Sg} (h : σ.Le σ') {x : AV} {v : Value} (r : Rep σ x v) : Rep σ' x v := by
  induction r with
  | bool b => exact .bool b
  | int k n => exact .int k n
  | str s => exact .str s
  | ptr b off => exact .ptr b off
  | slnil t a cap h1 h2 h3 => exact .slnil t a cap h1 h2 h3
  | sl xs t b off s cap val h1 h2 h3 h4 h5 h6 h7 ih => exact .sl xs t b off s cap val h1 h2 h3 h4 (fun i x hx j c hc => h.cell (h5 i x hx j c hc)) ih h7
  | ref b e o n t ad cap sz h1 h2 h3 h4 h5 h6 h7 => exact .ref b e o n t ad cap sz h1 h2 h3 h4 (h.size _ _ h5) h6 h7
  | epsl xs t i off x b o val h1 h2 h3 h4 ih => exact .epsl xs t i off x b o val h1 (fun j c hc => h.cell (h2 j c hc)) ih h4
  | epref b e o n t i off => exact .epref b e o n t i off
  | fn f caps vs h1 h2 ih => exact .fn f caps vs h1 ih
  | nilp => exact .nilp
  | nilf => exact .nilf
  | nili => exact .nili
  | iface t v => exact .iface t v
  | agg cs vs h1 h2 h3 ih => exact .agg cs vs h1 h2 ih
  | tup cs vs h1 h2 ih => exact .tup cs vs h1 ih

theorem RepL.mono {σ σ' : Sg} (h : σ.Le σ') {xs : List AV} {vs : List Value} (r : RepL σ xs vs) : RepL σ' xs vs := ⟨r.1, fun i c v hc hv => (r.2 i c v hc hv).mono h⟩
theorem RepL.nil (σ : Sg) : RepL σ [] [] := ⟨rfl, by simp⟩
theorem RepL.cons {σ : Sg} {x : AV} {v : Value} {xs : List AV} {vs : List Value} (h : Rep σ x v) (r : RepL σ xs vs) : RepL σ (x :: xs) (v :: vs) :=
  ⟨by simp [r.1], fun i c u hc hu => by
    cases i with
    | zero => simp at hc hu; subst hc; subst hu; exact h
    | succ i => exact r.2 i c u (by simpa using hc) (by simpa using hu)⟩
theorem RepL.append {σ : Sg} {xs ys : List AV} {vs us : List Value} (h : RepL σ xs vs) (k : RepL σ ys us) : RepL σ (xs ++ ys) (vs ++ us) :=
  ⟨by simp [h.1, k.1], fun i c u hc hu => by
    rcases Nat.lt_or_ge i xs.length with hi | hi
    · rw [List.getElem?_append_left hi] at hc
      rw [List.getElem?_append_left (h.1 ▸ hi)] at hu
      exact h.2 i c u hc hu
    · rw [List.getElem?_append_right hi] at hc
      rw [List.getElem?_append_right (h.1 ▸ hi), ← h.1] at hu
      exact k.2 _ c u hc hu⟩
theorem RepL.head {σ : Sg} {x : AV} {xs : List AV} {vs : List Value} (r : RepL σ (x :: xs) vs) : ∃ v us, vs = v :: us ∧ Rep σ x v ∧ RepL σ xs us := by
  obtain ⟨hl, hr⟩ := r
  cases vs with
  | nil => simp at hl
  | cons v us => exact ⟨v, us, rfl, hr 0 x v rfl rfl, by simpa using hl, fun i c u hc hu => hr (i + 1) c u (by simpa using hc) (by simpa using hu)⟩

/-- Cells of a value. -/
theorem Rep.cells {σ : Sg} {x : AV} {v : Value} (h : Rep σ x v) : RepL σ x.cells v.cells.toList := by
  cases h with
  | agg cs vs hl h1 hr => exact ⟨by simpa [Value.cells] using hl, fun i c u hc hu => hr i c u hc (by simpa [Value.cells] using hu)⟩
  | sl xs t b off s cap val h1 h2 h3 h4 h5 h6 h7 => exact RepL.cons (.sl xs t b off s cap val h1 h2 h3 h4 h5 h6 h7) (RepL.nil σ)
  | slnil t a cap h1 h2 h3 => exact RepL.cons (.slnil t a cap h1 h2 h3) (RepL.nil σ)
  | ref b e o n t ad cap sz h1 h2 h3 h4 h5 h6 h7 => exact RepL.cons (.ref b e o n t ad cap sz h1 h2 h3 h4 h5 h6 h7) (RepL.nil σ)
  | epsl xs t i off x b o val h1 h2 h3 h4 => exact RepL.cons (.epsl xs t i off x b o val h1 h2 h3 h4) (RepL.nil σ)
  | fn f caps vs h1 h2 => exact RepL.cons (.fn f caps vs h1 h2) (RepL.nil σ)
  | tup cs vs h1 h2 => exact RepL.cons (.tup cs vs h1 h2) (RepL.nil σ)
  | bool b => exact RepL.cons (.bool b) (RepL.nil σ)
  | int k n => exact RepL.cons (.int k n) (RepL.nil σ)
  | str s => exact RepL.cons (.str s) (RepL.nil σ)
  | ptr b off => exact RepL.cons (.ptr b off) (RepL.nil σ)
  | epref b e o n t i off => exact RepL.cons (.epref b e o n t i off) (RepL.nil σ)
  | nilp => exact RepL.cons .nilp (RepL.nil σ)
  | nilf => exact RepL.cons .nilf (RepL.nil σ)
  | nili => exact RepL.cons .nili (RepL.nil σ)
  | iface t v => exact RepL.cons (.iface t v) (RepL.nil σ)

theorem Rep.one {σ : Sg} {x : AV} {v : Value} (h : Rep σ x v) (hx : x.one = true) : v.oneCell' = true := by
  cases h <;> first | rfl | (simp [AV.one] at hx)
theorem Rep.cells_one {σ : Sg} {x : AV} {v : Value} (h : Rep σ x v) (hx : x.solid = true) : ∀ u ∈ v.cells.toList, u.oneCell' = true := by
  cases h with
  | agg cs vs hl h1 hr => intro u hu; exact h1 u (by simpa [Value.cells] using hu)
  | tup cs vs hl hr => simp [AV.solid] at hx
  | _ => intro u hu; simp [Value.cells] at hu; subst hu; rfl
theorem Rep.cells_length {σ : Sg} {x : AV} {v : Value} (h : Rep σ x v) : x.cells.length = v.cells.size := by
  have := h.cells.1
  simpa using this

theorem AHeap.le.refl (A : AHeap) : A.le A := fun _ _ h => h
theorem AHeap.le.trans {A B C : AHeap} (h : A.le B) (k : B.le C) : A.le C := fun b cs e => k b cs (h b cs e)
@[simp] theorem AHeap.set_same (A : AHeap) (b : Nat) (cs : List AV) : A.set b cs b = some cs := by simp [AHeap.set]
theorem AHeap.set_ne (A : AHeap) (b : Nat) (cs : List AV) {i : Nat} (h : i ≠ b) : A.set b cs i = A i := by simp [AHeap.set, h]
theorem AHeap.le_set {A : AHeap} {b : Nat} (cs : List AV) (h : A b = none) : A.le (A.set b cs) := fun i c e => by
  by_cases hi : i = b
  · subst hi; rw [h] at e; cases e
  · rw [AHeap.set_ne _ _ _ hi]; exact e
theorem AHeap.set_le {A A' : AHeap} (h : A.le A') (b : Nat) (cs : List AV) : (A.set b cs).le (A'.set b cs) := fun i c e => by
  by_cases hi : i = b
  · subst hi; simpa using e
  · rw [AHeap.set_ne _ _ _ hi] at *; exact h i c e
theorem AHeap.del_le (A : AHeap) (b : Nat) : (A.del b).le A := fun i c e => by
  by_cases hi : i = b
  · subst hi; simp [AHeap.del] at e
  · simpa [AHeap.del, hi] using e
@[simp] theorem AHeap.set_set (A : AHeap) (b : Nat) (x y : List AV) : (A.set b x).set b y = A.set b y := by
  funext i; by_cases h : i = b <;> simp [AHeap.set, h]
theorem AHeap.set_eq {A : AHeap} {b : Nat} {cs : List AV} (h : A b = some cs) : A.set b cs = A := by
  funext i; by_cases hi : i = b
  · subst hi; simp [AHeap.set, h]
  · simp [AHeap.set, hi]

theorem Sim.drop {B : Nat} {σ : Sg} {A A' : AHeap} {w : World} (h : Sim B σ A w) (hl : A'.le A) : Sim B σ A' w :=
  ⟨h.base, h.mem, h.size, fun b cs e => h.own b cs (hl b cs e)⟩

theorem Sim.lt {B : Nat} {σ : Sg} {A : AHeap} {w : World} (h : Sim B σ A w) {b : Nat} {cs : List AV} (e : A b = some cs) : b < w.heap.size := by
  obtain ⟨_, _, cur, e', hh, _⟩ := h.own b cs e
  exact (Array.getElem?_eq_some_iff.1 hh).1
theorem Sim.fresh {B : Nat} {σ : Sg} {A : AHeap} {w : World} (h : Sim B σ A w) : A w.heap.size = none := by
  cases e : A w.heap.size with
  | none => rfl
  | some cs => exact absurd (h.lt e) (Nat.lt_irrefl _)
theorem Sim.freshMem {B : Nat} {σ : Sg} {A : AHeap} {w : World} (h : Sim B σ A w) : σ.mem w.heap.size = none := by
  cases e : σ.mem w.heap.size with
  | none => rfl
  | some o => exact absurd (Array.getElem?_eq_some_iff.1 (h.mem _ _ e)).1 (Nat.lt_irrefl _)
theorem Sim.freshSize {B : Nat} {σ : Sg} {A : AHeap} {w : World} (h : Sim B σ A w) : σ.size w.heap.size = none := by
  cases e : σ.size w.heap.size with
  | none => rfl
  | some n => obtain ⟨c, e', fr, hh, _⟩ := h.size _ _ e; exact absurd (Array.getElem?_eq_some_iff.1 hh).1 (Nat.lt_irrefl _)

/-- The world has drawn an answer. -/
theorem Sim.drew {B : Nat} {σ : Sg} {A : AHeap} {w : World} (h : Sim B σ A w) : Sim B σ A w.drew := ⟨h.base, h.mem, h.size, h.own⟩

/-- Blocks that are new to what is known. -/
theorem Sim.grow {B : Nat} {σ : Sg} {A : AHeap} {w : World} (h : Sim B σ A w) (o : Obj) : Sim B σ A (w.alloc o) := by
  refine ⟨Nat.le_trans h.base (by simp), fun b o' e => ?_, fun b n e => ?_, fun b cs e => ?_⟩
  · have hh := h.mem b o' e
    rw [Below.heap_alloc w o b (Array.getElem?_eq_some_iff.1 hh).1]; exact hh
  · obtain ⟨c, e', fr, hh, hn⟩ := h.size b n e
    exact ⟨c, e', fr, by rw [Below.heap_alloc w o b (Array.getElem?_eq_some_iff.1 hh).1]; exact hh, hn⟩
  · obtain ⟨h1, h2, cur, e', hh, rest⟩ := h.own b cs e
    exact ⟨h1, h2, cur, e', by rw [Below.heap_alloc w o b (Array.getElem?_eq_some_iff.1 hh).1]; exact hh, rest⟩

/-- A new object. -/
def Sg.withSize (σ : Sg) (b n : Nat) : Sg := { σ with size := fun i => if i = b then some n else σ.size i }
theorem Sg.le_withSize {σ : Sg} {b n : Nat} (h : σ.size b = none) : σ.Le (σ.withSize b n) :=
  ⟨fun _ _ e => e, fun i m e => by
    by_cases hi : i = b
    · subst hi; rw [h] at e; cases e
    · simpa [Sg.withSize, hi] using e⟩
theorem Sim.new {B : Nat} {σ : Sg} {A : AHeap} {w : World} (h : Sim B σ A w) (cells : Array Value) (e : TypeId) (cs : List AV)
    (hl : cs.length ≤ cells.size) (hr : ∀ (j : Nat) c, cs[j]? = some c → ∃ v, cells[j]? = some v ∧ Rep σ c v ∧ v.oneCell' = true) :
    σ.Le (σ.withSize w.heap.size cells.size) ∧ Sim B (σ.withSize w.heap.size cells.size) (A.set w.heap.size cs) (w.alloc (.cells cells e)) := by
  have hle := Sg.le_withSize (n := cells.size) h.freshSize
  have hg := h.grow (.cells cells e)
  refine ⟨hle, hg.base, hg.mem, fun b n e' => ?_, fun b ob e' => ?_⟩
  · by_cases hb : b = w.heap.size
    · subst hb
      simp [Sg.withSize] at e'
      exact ⟨cells, e, (0, 0), heap_alloc_new w _, e'⟩
    · exact hg.size b n (by simpa [Sg.withSize, hb] using e')
  · by_cases hb : b = w.heap.size
    · subst hb
      rw [AHeap.set_same] at e'
      obtain rfl := Option.some.inj e'
      refine ⟨h.base, h.freshMem, cells, e, heap_alloc_new w _, by simp [Sg.withSize], hl, fun j c hc => ?_⟩
      obtain ⟨v, h1, h2, h3⟩ := hr j c hc
      exact ⟨v, h1, h2.mono hle, h3⟩
    · rw [AHeap.set_ne _ _ _ hb] at e'
      obtain ⟨h1, h2, cur, t, hh, hs, hcl, hc⟩ := hg.own b ob e'
      refine ⟨h1, h2, cur, t, hh, by simpa [Sg.withSize, hb] using hs, hcl, fun j c hj => ?_⟩
      obtain ⟨v, k1, k2, k3⟩ := hc j c hj
      exact ⟨v, k1, k2.mono hle, k3⟩

end Go.Proofs.YtllahdjejcideaaAi
