/- First facts on the relation of abstract values and memory. -/
import Derived.Test.YtllahdjejcideaaAiB
namespace Go.Proofs.YtllahdjejcideaaAi
open Go Go.RowKit
set_option linter.unusedVariables false
set_option linter.unusedSimpArgs false

theorem Sg.Le.refl (σ : Sg) : σ.Le σ := ⟨fun _ _ h => h, fun _ _ h => h, rfl⟩
theorem Sg.Le.trans {a b c : Sg} (h : a.Le b) (k : b.Le c) : a.Le c := ⟨fun _ _ e => k.mem _ _ (h.mem _ _ e), fun _ _ e => k.nm _ _ (h.nm _ _ e), k.base.trans h.base⟩
theorem Sg.LeN.refl (n : Nat) (σ : Sg) : σ.LeN n σ := ⟨fun _ _ h => h, fun _ _ _ h => h, rfl⟩
theorem Sg.LeN.trans {n : Nat} {a b c : Sg} (h : a.LeN n b) (k : b.LeN n c) : a.LeN n c := ⟨fun _ _ e => k.mem _ _ (h.mem _ _ e), fun _ _ hl e => k.nm _ _ hl (h.nm _ _ hl e), k.base.trans h.base⟩
theorem Sg.Le.toN {σ σ' : Sg} (h : σ.Le σ') (n : Nat) : σ.LeN n σ' := ⟨h.mem, fun b x _ e => h.nm b x e, h.base⟩

theorem Keeps.refl (B : Nat → Prop) (w : World) : Keeps B w w := ⟨rfl, rfl, rfl, Nat.le_refl _, fun _ _ => rfl⟩
theorem Keeps.trans {B : Nat → Prop} {a b c : World} (h : Keeps B a b) (k : Keeps B b c) : Keeps B a c :=
  ⟨k.os.trans h.os, k.tape.trans h.tape, k.output.trans h.output, Nat.le_trans h.size k.size, fun i hi => (k.block i hi).trans (h.block i hi)⟩
theorem Keeps.mono {B B' : Nat → Prop} {w w' : World} (h : Keeps B w w') (hB : ∀ c, B' c → B c) : Keeps B' w w' := ⟨h.os, h.tape, h.output, h.size, fun k hk => h.block k (hB k hk)⟩
theorem Keeps.below {B : Nat} {w w' : World} (h : Keeps (fun c => c < B) w w') : Below B w w' := ⟨h.os, h.tape, h.output, h.size, h.block⟩
theorem Keeps.alloc {B : Nat → Prop} {w w' : World} (h : Keeps B w w') (hb : ∀ c, B c → c < w'.heap.size) (o : Obj) : Keeps B w (w'.alloc o) :=
  h.trans ⟨rfl, rfl, rfl, by simp, fun i hi => Below.heap_alloc w' o i (hb i hi)⟩

theorem hget_lt : ∀ {l : List (Option (List AV))} {i : Nat} {cs : List AV}, hget l i = some cs → i < l.length
  | [], i, cs, h => by cases h
  | o :: r, i, cs, h => by
    simp only [hget] at h
    split at h
    · subst_vars; simp
    · have := hget_lt h; simp; omega
@[simp] theorem hset_len : ∀ (l : List (Option (List AV))) (i : Nat) (o : Option (List AV)), (hset l i o).length = l.length
  | [], i, o => rfl
  | x :: r, i, o => by
    simp only [hset]
    split
    · rfl
    · simp [hset_len r]
theorem hget_hset : ∀ (l : List (Option (List AV))) (i j : Nat) (o : Option (List AV)), hget (hset l i o) j = if j = i ∧ i < l.length then o else hget l j
  | [], i, j, o => by simp [hset]
  | x :: r, i, j, o => by
    by_cases hi : i = 0
    · subst hi
      by_cases hj : j = 0
      · subst hj; simp [hset, hget]
      · simp [hset, hget, hj]
    · by_cases hj : j = 0
      · subst hj; simp [hset, hget, hi, Ne.symm hi]
      · simp only [hset, if_neg hi, hget, if_neg hj, hget_hset r]
        have : (j - 1 = i - 1 ∧ i - 1 < r.length) ↔ (j = i ∧ i < (x :: r).length) := by simp; omega
        simp only [this]
theorem hget_append : ∀ (l k : List (Option (List AV))) (i : Nat), hget (l ++ k) i = if i < l.length then hget l i else hget k (i - l.length)
  | [], k, i => by simp
  | x :: r, k, i => by
    by_cases hi : i = 0
    · subst hi; simp [hget]
    · simp only [List.cons_append, hget, if_neg hi, hget_append r, List.length_cons]
      have h1 : (i - 1 < r.length) ↔ (i < r.length + 1) := by omega
      have h2 : i - 1 - r.length = i - (r.length + 1) := by omega
      simp only [h1, h2]
@[simp] theorem hset_hset : ∀ (l : List (Option (List AV))) (i : Nat) (o o' : Option (List AV)), hset (hset l i o) i o' = hset l i o'
  | [], _, _, _ => rfl
  | x :: r, i, o, o' => by
    by_cases h : i = 0
    · simp [hset, h]
    · simp [hset, h, hset_hset r]
@[simp] theorem AHeap.set_n (A : AHeap) (b : Nat) (cs : List AV) : (A.set b cs).n = A.n := by simp [AHeap.set, AHeap.n]
@[simp] theorem AHeap.del_n (A : AHeap) (b : Nat) : (A.del b).n = A.n := by simp [AHeap.del, AHeap.n]
@[simp] theorem AHeap.push_n (A : AHeap) (cs : List AV) : (A.push cs).n = A.n + 1 := by simp [AHeap.push, AHeap.n]
theorem AHeap.lt {A : AHeap} {b : Nat} {cs : List AV} (h : A b = some cs) : b < A.n := hget_lt h
theorem AHeap.push_at (A : AHeap) (cs : List AV) (i : Nat) : (A.push cs) i = if i = A.n then some cs else A i := by
  simp only [AHeap.push, hget_append, AHeap.n]
  by_cases h : i < A.l.length
  · rw [if_pos h, if_neg (by omega)]
  · rw [if_neg h]
    by_cases h2 : i = A.l.length
    · subst h2; simp [hget]
    · rw [if_neg h2]
      cases h3 : hget A.l i with
      | none => simp [hget]; omega
      | some c => exact absurd (hget_lt h3) h
theorem AHeap.set_at (A : AHeap) (b : Nat) (cs : List AV) (i : Nat) : (A.set b cs) i = if i = b ∧ b < A.n then some cs else A i := hget_hset _ _ _ _
theorem AHeap.del_at (A : AHeap) (b i : Nat) : (A.del b) i = if i = b then none else A i := by
  simp only [AHeap.del, hget_hset]
  by_cases h : i = b
  · subst h
    by_cases h2 : i < A.l.length
    · simp [h2]
    · simp only [h2, and_false, if_false, if_true]
      cases h3 : hget A.l i with
      | none => rfl
      | some c => exact absurd (hget_lt h3) h2
  · simp [h]
theorem Sg.Le.cell {σ σ' : Sg} (h : σ.Le σ') {b off : Nat} {v : Value} (e : σ.cell b off = some v) : σ'.cell b off = some v := by
  unfold Sg.cell at *
  cases hm : σ.mem b with
  | none => simp [hm] at e
  | some o => rw [h.mem b o hm]; rw [hm] at e; exact e

theorem ltL_get {n : Nat} : ∀ {cs : List AV}, ltL n cs = true → ∀ (i : Nat) (x : AV), cs[i]? = some x → x.lt n = true
  | [], _, i, x, hx => by simp at hx
  | c :: cs, h, i, x, hx => by
    simp only [ltL, Bool.and_eq_true] at h
    cases i with
    | zero => simp at hx; subst hx; exact h.1
    | succ i => exact ltL_get h.2 i x (by simpa using hx)
theorem ltL_of {n : Nat} : ∀ {cs : List AV}, (∀ x ∈ cs, x.lt n = true) → ltL n cs = true
  | [], _ => rfl
  | c :: cs, h => by
    simp only [ltL, Bool.and_eq_true]
    exact ⟨h c (List.mem_cons_self ..), ltL_of fun x hx => h x (List.mem_cons_of_mem _ hx)⟩
mutual
theorem lt_mono {m n : Nat} (h : m ≤ n) : ∀ x : AV, x.lt m = true → x.lt n = true
  | .ptr b _, hx => by simp only [AV.lt, decide_eq_true_eq] at *; omega
  | .ref b _ _ _ _, hx => by simp only [AV.lt, decide_eq_true_eq] at *; omega
  | .ep v _ _, hx => by simp only [AV.lt] at *; exact lt_mono h v hx
  | .fn _ cs, hx => by simp only [AV.lt] at *; exact ltL_mono h cs hx
  | .agg cs, hx => by simp only [AV.lt] at *; exact ltL_mono h cs hx
  | .tup cs, hx => by simp only [AV.lt] at *; exact ltL_mono h cs hx
  | .bool _, _ | .int _ _, _ | .str _, _ | .sl _ _, _ | .nilp, _ | .nilf, _ | .nili, _ | .iface, _ | .any, _ => rfl
theorem ltL_mono {m n : Nat} (h : m ≤ n) : ∀ cs : List AV, ltL m cs = true → ltL n cs = true
  | [], _ => rfl
  | x :: r, hx => by
    simp only [ltL, Bool.and_eq_true] at *
    exact ⟨lt_mono h x hx.1, ltL_mono h r hx.2⟩
end
theorem renL_map (f : Nat → Nat) : ∀ cs : List AV, renL f cs = cs.map (AV.ren f)
  | [] => rfl
  | c :: cs => by rw [renL, renL_map f cs]; rfl

theorem Rep.mono' {σ σ' : Sg} (hmem : ∀ b o, σ.mem b = some o → σ'.mem b = some o) (hnm : ∀ b x, σ.nm b = some x → σ'.nm b = some x) {x : AV} {v : Value} (r : Rep σ x v) : Rep σ' x v := by
  have hcell : ∀ {b off : Nat} {v : Value}, σ.cell b off = some v → σ'.cell b off = some v := by
    intro b off v e
    unfold Sg.cell at *
    cases hm : σ.mem b with
    | none => simp [hm] at e
    | some o => rw [hmem b o hm]; rw [hm] at e; exact e
  induction r with
  | bool b => exact .bool b
  | int k n => exact .int k n
  | str s => exact .str s
  | any v => exact .any v
  | ptr b off c sz h1 => exact .ptr b off c sz (hnm _ _ h1)
  | slnil t a cap h1 h2 h3 => exact .slnil t a cap h1 h2 h3
  | sl xs t b off s cap val h1 h2 h3 h4 h5 h6 h7 h8 ih => exact .sl xs t b off s cap val h1 h2 h3 h4 (fun i x hx j c hc => hcell (h5 i x hx j c hc)) ih h7 h8
  | ref b e o n t ad cap c sz h1 h2 h3 h4 h5 h6 h7 => exact .ref b e o n t ad cap c sz h1 h2 h3 h4 (hnm _ _ h5) h6 h7
  | epsl xs t i off x b o val h1 h2 h3 h4 h5 ih => exact .epsl xs t i off x b o val h1 (fun j c hc => hcell (h2 j c hc)) ih h4 h5
  | epref b e o n t i off c sz h1 => exact .epref b e o n t i off c sz (hnm _ _ h1)
  | fn f caps vs h1 h2 ih => exact .fn f caps vs h1 ih
  | nilp => exact .nilp
  | nilf => exact .nilf
  | nili => exact .nili
  | iface t v => exact .iface t v
  | agg cs vs h1 h2 h3 ih => exact .agg cs vs h1 h2 ih
  | tup cs vs h1 h2 ih => exact .tup cs vs h1 ih
theorem Rep.mono {σ σ' : Sg} (h : σ.Le σ') {x : AV} {v : Value} (r : Rep σ x v) : Rep σ' x v := r.mono' h.mem h.nm

/-- What has only names below a number is seen the same where these names mean the same. -/
theorem Rep.low' {n : Nat} {σ σ' : Sg} (hmem : ∀ b o, σ.mem b = some o → σ'.mem b = some o) (hnm : ∀ b x, b < n → σ.nm b = some x → σ'.nm b = some x) {x : AV} {v : Value} (r : Rep σ x v) (hl : x.lt n = true) : Rep σ' x v := by
  have hc : ∀ {b off : Nat} {v : Value}, σ.cell b off = some v → σ'.cell b off = some v := by
    intro b off v e
    unfold Sg.cell at *
    cases hm : σ.mem b with
    | none => simp [hm] at e
    | some o => rw [hmem b o hm]; rw [hm] at e; exact e
  have h0 : ∀ {cs : List AV}, ltL 0 cs = true → ∀ (j : Nat) (c : AV), cs[j]? = some c → c.lt n = true := by
    intro cs hcs j c hj
    have h1 := ltL_get hcs j c hj
    exact lt_mono (Nat.zero_le n) c h1
  induction r with
  | bool b => exact .bool b
  | int k n => exact .int k n
  | str s => exact .str s
  | any v => exact .any v
  | ptr b off c sz h1 => exact .ptr b off c sz (hnm _ _ (of_decide_eq_true hl) h1)
  | slnil t a cap h1 h2 h3 => exact .slnil t a cap h1 h2 h3
  | sl xs t b off s cap val h1 h2 h3 h4 h5 h6 h7 h8 ih => exact .sl xs t b off s cap val h1 h2 h3 h4 (fun i x hx j c hj => hc (h5 i x hx j c hj)) (fun i x hx j c hj => ih i x hx j c hj (h0 (h8 i x hx) j c hj)) h7 h8
  | ref b e o n t ad cap c sz h1 h2 h3 h4 h5 h6 h7 => exact .ref b e o n t ad cap c sz h1 h2 h3 h4 (hnm _ _ (of_decide_eq_true hl) h5) h6 h7
  | epsl xs t i off x b o val h1 h2 h3 h4 h5 ih => exact .epsl xs t i off x b o val h1 (fun j c hj => hc (h2 j c hj)) (fun j c hj => ih j c hj (h0 h5 j c hj)) h4 h5
  | epref b e o n t i off c sz h1 => exact .epref b e o n t i off c sz (hnm _ _ (of_decide_eq_true (by simpa [AV.lt] using hl)) h1)
  | fn f caps vs h1 h2 ih => exact .fn f caps vs h1 fun i c v hi hv => ih i c v hi hv (ltL_get hl i c hi)
  | nilp => exact .nilp
  | nilf => exact .nilf
  | nili => exact .nili
  | iface t v => exact .iface t v
  | agg cs vs h1 h2 h3 ih => exact .agg cs vs h1 h2 fun i c v hi hv => ih i c v hi hv (ltL_get hl i c hi)
  | tup cs vs h1 h2 ih => exact .tup cs vs h1 fun i c v hi hv => ih i c v hi hv (ltL_get hl i c hi)
theorem Rep.low {n : Nat} {σ σ' : Sg} (h : σ.LeN n σ') {x : AV} {v : Value} (r : Rep σ x v) (hl : x.lt n = true) : Rep σ' x v := r.low' h.mem h.nm hl

theorem looseL_len : ∀ cs : List AV, (looseL cs).length = cs.length
  | [] => rfl
  | x :: r => by simp [looseL, looseL_len r]
theorem RepL.mono {σ σ' : Sg} (h : σ.Le σ') {xs : List AV} {vs : List Value} (r : RepL σ xs vs) : RepL σ' xs vs := ⟨r.1, fun i c v hc hv => (r.2 i c v hc hv).mono h⟩
theorem RepL.nil (σ : Sg) : RepL σ [] [] := ⟨rfl, by simp⟩
theorem RepL.cons {σ : Sg} {x : AV} {v : Value} {xs : List AV} {vs : List Value} (h : Rep σ x v) (r : RepL σ xs vs) : RepL σ (x :: xs) (v :: vs) :=
  ⟨by simp [r.1], fun i c u hc hu => by
    cases i with
    | zero => simp at hc hu; subst hc; subst hu; exact h
    | succ i => exact r.2 i c u (by simpa using hc) (by simpa using hu)⟩
theorem RepL.append {σ : Sg} {xs ys : List AV} {vs us : List Value} (h : RepL σ xs vs) (k : RepL σ ys us) : RepL σ (xs ++ ys) (vs ++ us) :=
  ⟨by simp [h.1, k.1], fun i c u hc hu => by
    rcases Nat.lt_or_ge i xs.length with hi | hi
    · rw [List.getElem?_append_left hi] at hc
      rw [List.getElem?_append_left (h.1 ▸ hi)] at hu
      exact h.2 i c u hc hu
    · rw [List.getElem?_append_right hi] at hc
      rw [List.getElem?_append_right (h.1 ▸ hi), ← h.1] at hu
      exact k.2 _ c u hc hu⟩
theorem RepL.head {σ : Sg} {x : AV} {xs : List AV} {vs : List Value} (r : RepL σ (x :: xs) vs) : ∃ v us, vs = v :: us ∧ Rep σ x v ∧ RepL σ xs us := by
  obtain ⟨hl, hr⟩ := r
  cases vs with
  | nil => simp at hl
  | cons v us => exact ⟨v, us, rfl, hr 0 x v rfl rfl, by simpa using hl, fun i c u hc hu => hr (i + 1) c u (by simpa using hc) (by simpa using hu)⟩

mutual
theorem rep_loose {σ : Sg} : ∀ (x : AV) (v : Value), Rep σ x v → Rep σ x.loose v
  | .sl xs t, v, h => by
    cases h with
    | slnil _ a cap h1 h2 h3 => exact .slnil false a cap (fun h => by cases h) h2 h3
    | sl _ _ b off s cap val h1 h2 h3 h4 h5 h6 h7 h8 => exact .sl xs false b off s cap val h1 h2 (fun h => by cases h) h4 h5 h6 h7 h8
  | .fn g cs, v, h => by
    cases h with
    | fn _ _ vs h1 h2 => exact .fn g _ vs (by rw [looseL_len]; exact h1) (repL_loose cs vs h2)
  | .agg cs, v, h => by
    cases h with
    | agg _ vs h1 h2 h3 => exact .agg _ vs (by rw [looseL_len]; exact h1) h2 (repL_loose cs vs h3)
  | .tup cs, v, h => by
    cases h with
    | tup _ vs h1 h3 => exact .tup _ vs (by rw [looseL_len]; exact h1) (repL_loose cs vs h3)
  | .bool _, _, h | .int _ _, _, h | .str _, _, h | .ptr _ _, _, h | .ref _ _ _ _ _, _, h | .ep _ _ _, _, h | .nilp, _, h | .nilf, _, h | .nili, _, h | .iface, _, h | .any, _, h => h
theorem repL_loose {σ : Sg} : ∀ (cs : List AV) (vs : List Value), (∀ (i : Nat) (c : AV) (v : Value), cs[i]? = some c → vs[i]? = some v → Rep σ c v) → ∀ (i : Nat) (c : AV) (v : Value), (looseL cs)[i]? = some c → vs[i]? = some v → Rep σ c v
  | [], vs, _, i, c, v, hc, _ => by simp [looseL] at hc
  | x :: cs, [], _, i, c, v, _, hv => by simp at hv
  | x :: cs, u :: us, h, 0, c, v, hc, hv => by
    simp [looseL] at hc hv
    subst hc; subst hv
    exact rep_loose x u (h 0 x u rfl rfl)
  | x :: cs, u :: us, h, i + 1, c, v, hc, hv => repL_loose cs us (fun i c v h1 h2 => h (i + 1) c v (by simpa using h1) (by simpa using h2)) i c v (by simpa [looseL] using hc) (by simpa using hv)
end
theorem RepL.loose {σ : Sg} {cs : List AV} {vs : List Value} (h : RepL σ cs vs) : RepL σ (looseL cs) vs := ⟨by rw [looseL_len]; exact h.1, repL_loose cs vs h.2⟩
theorem T.loose {P : Program} {f : FuncId} {args : List AV} {A : AHeap} {R : AV → AHeap → Prop} (h : T P f (looseL args) A R) : T P f args A R := ⟨h.1, fun B w0 σ w vs hb hs ha => h.2 B w0 σ w vs hb hs ha.loose⟩

/-- Cells of a value. -/
theorem Rep.cells {σ : Sg} {x : AV} {v : Value} (h : Rep σ x v) (hs : x.solid = true) : RepL σ x.cells v.cells.toList := by
  cases h with
  | agg cs vs hl h1 hr => exact ⟨by simpa [Value.cells] using hl, fun i c u hc hu => hr i c u hc (by simpa [Value.cells] using hu)⟩
  | sl xs t b off s cap val h1 h2 h3 h4 h5 h6 h7 h8 => exact RepL.cons (.sl xs t b off s cap val h1 h2 h3 h4 h5 h6 h7 h8) (RepL.nil σ)
  | slnil t a cap h1 h2 h3 => exact RepL.cons (.slnil t a cap h1 h2 h3) (RepL.nil σ)
  | ref b e o n t ad cap c sz h1 h2 h3 h4 h5 h6 h7 => exact RepL.cons (.ref b e o n t ad cap c sz h1 h2 h3 h4 h5 h6 h7) (RepL.nil σ)
  | epsl xs t i off x b o val h1 h2 h3 h4 h5 => exact RepL.cons (.epsl xs t i off x b o val h1 h2 h3 h4 h5) (RepL.nil σ)
  | fn f caps vs h1 h2 => exact RepL.cons (.fn f caps vs h1 h2) (RepL.nil σ)
  | tup cs vs h1 h2 => cases hs
  | any v => cases hs
  | bool b => exact RepL.cons (.bool b) (RepL.nil σ)
  | int k n => exact RepL.cons (.int k n) (RepL.nil σ)
  | str s => exact RepL.cons (.str s) (RepL.nil σ)
  | ptr b off c sz h1 => exact RepL.cons (.ptr b off c sz h1) (RepL.nil σ)
  | epref b e o n t i off c sz h1 => exact RepL.cons (.epref b e o n t i off c sz h1) (RepL.nil σ)
  | nilp => exact RepL.cons .nilp (RepL.nil σ)
  | nilf => exact RepL.cons .nilf (RepL.nil σ)
  | nili => exact RepL.cons .nili (RepL.nil σ)
  | iface t v => exact RepL.cons (.iface t v) (RepL.nil σ)

theorem Rep.one {σ : Sg} {x : AV} {v : Value} (h : Rep σ x v) (hx : x.one = true) : v.oneCell' = true := by
  cases h <;> first | rfl | (simp [AV.one] at hx)
theorem Rep.cells_one {σ : Sg} {x : AV} {v : Value} (h : Rep σ x v) (hx : x.solid = true) : ∀ u ∈ v.cells.toList, u.oneCell' = true := by
  cases h with
  | agg cs vs hl h1 hr => intro u hu; exact h1 u (by simpa [Value.cells] using hu)
  | tup cs vs hl hr => simp [AV.solid] at hx
  | any v => simp [AV.solid] at hx
  | _ => intro u hu; simp [Value.cells] at hu; subst hu; rfl
theorem Rep.cells_length {σ : Sg} {x : AV} {v : Value} (h : Rep σ x v) (hs : x.solid = true) : x.cells.length = v.cells.size := by
  have := (h.cells hs).1
  simpa using this

theorem AHeap.le.refl (A : AHeap) : A.le A := fun _ _ h => h
theorem AHeap.le.trans {A B C : AHeap} (h : A.le B) (k : B.le C) : A.le C := fun b cs e => k b cs (h b cs e)
theorem AHeap.le_push (A : AHeap) (cs : List AV) : A.le (A.push cs) := fun b c h => by
  rw [AHeap.push_at, if_neg (by have := AHeap.lt h; omega)]; exact h
theorem AHeap.del_le (A : AHeap) (b : Nat) : (A.del b).le A := fun i c e => by
  rw [AHeap.del_at] at e
  split at e
  · cases e
  · exact e
theorem AHeap.ext' {A B : AHeap} (h : A.l = B.l) : A = B := by cases A; cases B; simp at h; rw [h]
theorem hset_same : ∀ {l : List (Option (List AV))} {b : Nat} {cs : List AV}, hget l b = some cs → hset l b (some cs) = l
  | [], b, cs, h => by cases h
  | o :: r, b, cs, h => by
    simp only [hget] at h
    simp only [hset]
    split
    · rename_i hb; rw [if_pos hb] at h; rw [h]
    · rename_i hb; rw [if_neg hb] at h; rw [hset_same h]
theorem AHeap.set_eq {A : AHeap} {b : Nat} {cs : List AV} (h : A b = some cs) : A.set b cs = A := AHeap.ext' (hset_same h)

/-- Objects that are owned no more. -/
theorem Sim.drop {B : Nat → Prop} {σ : Sg} {A A' : AHeap} {w : World} (h : Sim B σ A w) (hl : A'.le A) (hn : A'.n = A.n) : Sim B σ A' w :=
  ⟨h.base, h.mem, h.low, fun b c n e => by rw [hn]; exact h.nm b c n e, fun b e => h.tot b (by rw [← hn]; exact e), fun b cs e => h.own b cs (hl b cs e), fun b b' cs cs' c n n' e1 e2 => h.inj b b' cs cs' c n n' (hl _ _ e1) (hl _ _ e2)⟩

theorem Sim.freshB {B : Nat → Prop} {σ : Sg} {A : AHeap} {w : World} (h : Sim B σ A w) : ¬ B w.heap.size := fun hb => Nat.lt_irrefl _ (h.base _ hb)
theorem Sim.freshMem {B : Nat → Prop} {σ : Sg} {A : AHeap} {w : World} (h : Sim B σ A w) : σ.mem w.heap.size = none := by
  cases e : σ.mem w.heap.size with
  | none => rfl
  | some o => exact absurd (Array.getElem?_eq_some_iff.1 (h.mem _ _ e)).1 (Nat.lt_irrefl _)
theorem Sim.freshNm {B : Nat → Prop} {σ : Sg} {A : AHeap} {w : World} (h : Sim B σ A w) : σ.nm A.n = none := by
  cases e : σ.nm A.n with
  | none => rfl
  | some x => exact absurd (h.nm _ x.1 x.2 e).1 (Nat.lt_irrefl _)
theorem Sim.nmLt {B : Nat → Prop} {σ : Sg} {A : AHeap} {w : World} (h : Sim B σ A w) {b c n : Nat} (e : σ.nm b = some (c, n)) : c < w.heap.size := by
  obtain ⟨_, cs, t, fr, hh, _⟩ := h.nm _ _ _ e
  exact (Array.getElem?_eq_some_iff.1 hh).1

/-- The world has drawn an answer. -/
theorem Owns.same {B : Nat → Prop} {σ : Sg} {w w' : World} {b : Nat} {cs : List AV} (h : Owns B σ w b cs) (hw : ∀ c n, σ.nm b = some (c, n) → w'.heap[c]? = w.heap[c]?) : Owns B σ w' b cs := by
  obtain ⟨c, cur, e, h1, h2, h3, h4, h5⟩ := h
  exact ⟨c, cur, e, h1, h2, h3, by rw [hw _ _ h1]; exact h4, h5⟩
theorem Sim.drew {B : Nat → Prop} {σ : Sg} {A : AHeap} {w : World} (h : Sim B σ A w) : Sim B σ A w.drew := ⟨h.base, h.mem, h.low, h.nm, h.tot, h.own, h.inj⟩

/-- Blocks that are new to what is known. -/
theorem Sim.grow {B : Nat → Prop} {σ : Sg} {A : AHeap} {w : World} (h : Sim B σ A w) (o : Obj) : Sim B σ A (w.alloc o) := by
  refine ⟨fun c hc => Nat.lt_of_lt_of_le (h.base c hc) (by simp), fun b o' e => ?_, h.low, fun b c n e => ?_, h.tot, fun b cs e => (h.own b cs e).same fun c n hn => Below.heap_alloc w o c (h.nmLt hn), h.inj⟩
  · have hh := h.mem b o' e
    rw [Below.heap_alloc w o b (Array.getElem?_eq_some_iff.1 hh).1]; exact hh
  · obtain ⟨h1, cs, e', fr, hh, hn⟩ := h.nm b c n e
    exact ⟨h1, cs, e', fr, by rw [Below.heap_alloc w o c (Array.getElem?_eq_some_iff.1 hh).1]; exact hh, hn⟩

/-- A new name. -/
def Sg.withNm (σ : Sg) (b c n : Nat) : Sg := { σ with nm := fun i => if i = b then some (c, n) else σ.nm i }
theorem Sg.le_withNm {σ : Sg} {b c n : Nat} (h : σ.nm b = none) : σ.Le (σ.withNm b c n) :=
  ⟨fun _ _ e => e, fun i m e => by
    by_cases hi : i = b
    · subst hi; rw [h] at e; cases e
    · simpa [Sg.withNm, hi] using e, rfl⟩
theorem Sg.withNm_at (σ : Sg) (b c n i : Nat) : (σ.withNm b c n).nm i = if i = b then some (c, n) else σ.nm i := rfl
theorem Owns.mono {B : Nat → Prop} {σ σ' : Sg} {w : World} {b : Nat} {cs : List AV} (h : Owns B σ w b cs) (hle : σ.Le σ') (hm : σ'.mem = σ.mem) : Owns B σ' w b cs := by
  obtain ⟨c, cur, e, h1, h2, h3, h4, h5, h6⟩ := h
  exact ⟨c, cur, e, hle.nm _ _ h1, h2, by rw [hm]; exact h3, h4, h5, fun j x hx => by
    obtain ⟨v, k1, k2, k3⟩ := h6 j x hx
    exact ⟨v, k1, k2.mono hle, k3⟩⟩

/-- A new name for a block that no other name owns. -/
theorem Sim.name {B : Nat → Prop} {σ : Sg} {A : AHeap} {w : World} (h : Sim B σ A w) {c : Nat} {cur : Array Value} {e : TypeId} {cs : List AV} (hB : ¬ B c) (hm : σ.mem c = none) (hh : w.heap[c]? = some (.cells cur e (0, 0)))
    (hl : cs.length ≤ cur.size) (hr : ∀ (j : Nat) x, cs[j]? = some x → ∃ v, cur[j]? = some v ∧ Rep σ x v ∧ v.oneCell' = true) (ho : ∀ b cs n, A b = some cs → σ.nm b ≠ some (c, n)) :
    σ.Le (σ.withNm A.n c cur.size) ∧ Sim B (σ.withNm A.n c cur.size) (A.push cs) w := by
  have hle : σ.Le (σ.withNm A.n c cur.size) := Sg.le_withNm h.freshNm
  refine ⟨hle, h.base, h.mem, h.low, fun b c' n e' => ?_, fun b hb => ?_, fun b ob e' => ?_, fun b b' o o' c' n n' e1 e2 e3 e4 => ?_⟩
  · rw [Sg.withNm_at] at e'
    rw [AHeap.push_n]
    split at e'
    · rename_i hb
      injection e' with e'; injection e' with h1 h2
      subst h1; subst h2
      exact ⟨by omega, cur, e, _, hh, rfl⟩
    · obtain ⟨h1, h2⟩ := h.nm b c' n e'
      exact ⟨by omega, h2⟩
  · rw [AHeap.push_n] at hb
    rw [Sg.withNm_at]
    split
    · exact ⟨_, rfl⟩
    · exact h.tot b (by omega)
  · rw [AHeap.push_at] at e'
    split at e'
    · rename_i hb
      subst hb
      obtain rfl := Option.some.inj e'
      exact ⟨c, cur, e, by rw [Sg.withNm_at, if_pos rfl], hB, hm, hh, hl, fun j x hx => by
        obtain ⟨v, h1, h2, h3⟩ := hr j x hx
        exact ⟨v, h1, h2.mono hle, h3⟩⟩
    · exact (h.own b ob e').mono hle rfl
  · rw [AHeap.push_at] at e1 e2
    rw [Sg.withNm_at] at e3 e4
    split at e1
    · rename_i hb
      rw [if_pos hb] at e3
      split at e2
      · rename_i hb'; rw [hb, hb']
      · rename_i hb'
        rw [if_neg hb'] at e4
        injection e3 with e3; injection e3 with e3 _
        subst e3
        exact absurd e4 (ho _ _ _ e2)
    · rename_i hb
      rw [if_neg hb] at e3
      split at e2
      · rename_i hb'
        rw [if_pos hb'] at e4
        injection e4 with e4; injection e4 with e4 _
        subst e4
        exact absurd e3 (ho _ _ _ e1)
      · rename_i hb'
        rw [if_neg hb'] at e4
        exact h.inj b b' o o' c' n n' e1 e2 e3 e4

/-- A new object. -/
theorem Sim.new {B : Nat → Prop} {σ : Sg} {A : AHeap} {w : World} (h : Sim B σ A w) (cells : Array Value) (e : TypeId) (cs : List AV)
    (hl : cs.length ≤ cells.size) (hr : ∀ (j : Nat) c, cs[j]? = some c → ∃ v, cells[j]? = some v ∧ Rep σ c v ∧ v.oneCell' = true) :
    σ.Le (σ.withNm A.n w.heap.size cells.size) ∧ Sim B (σ.withNm A.n w.heap.size cells.size) (A.push cs) (w.alloc (.cells cells e)) :=
  (h.grow (.cells cells e)).name h.freshB h.freshMem (heap_alloc_new w _) hl hr fun b cs n _ e => Nat.lt_irrefl _ (h.nmLt e)

end Go.Proofs.YtllahdjejcideaaAi
