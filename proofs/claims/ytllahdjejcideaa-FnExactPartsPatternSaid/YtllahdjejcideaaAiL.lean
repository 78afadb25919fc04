/- append, make, literals, copy, clear. -/
import Derived.Test.YtllahdjejcideaaAiK
namespace Go.Proofs.YtllahdjejcideaaAi
open Go Go.RowKit
set_option linter.unusedVariables false
set_option linter.unusedSimpArgs false

variable {P : Program} {σ : Sg} {w : World}

/-- What a step leaves: more is known, and it fits. -/
def Step (B : Nat → Prop) (w0 : World) (σ : Sg) (A' : AHeap) (r : AV) (q : Value) (w' : World) : Prop := ∃ σ', σ.Le σ' ∧ Sim B σ' A' w' ∧ Rep σ' r q ∧ Keeps B w0 w'

theorem new_step {B : Nat → Prop} {w0 : World} {A : AHeap} (h : Sim B σ A w) (hb : Keeps B w0 w) (cells : Array Value) (e : TypeId) (cs : List AV)
    (hl : cs.length ≤ cells.size) (hr : ∀ (j : Nat) c, cs[j]? = some c → ∃ v, cells[j]? = some v ∧ Rep σ c v ∧ v.oneCell' = true) :
    ∃ σ', σ.Le σ' ∧ Sim B σ' (A.push cs) (w.alloc (.cells cells e)) ∧ Keeps B w0 (w.alloc (.cells cells e)) ∧ σ'.nm A.n = some (w.heap.size, cells.size) := by
  obtain ⟨h1, h2⟩ := h.new cells e cs hl hr
  exact ⟨_, h1, h2, hb.alloc h.base _, by simp [Sg.withNm]⟩

theorem newRow_run (e : TypeId) (cells : Array Value) : (newRow e cells).run P w = .ok ⟨w.heap.size, 0, none⟩ (w.alloc (.cells cells e)) := by
  rfl

theorem alloc_run {B : Nat → Prop} {w0 : World} {A : AHeap} (h : Sim B σ A w) (hb : Keeps B w0 w) {t : TypeId} {z : List AV} (hz : zeroT P t = some z) (old : Value) :
    ∃ w', (Instr.alloc t true (.tuple #[])).run P w = .ok (.pointer (some ⟨w.heap.size, 0, none⟩)) w' ∧ Step B w0 σ (A.push z) (.ptr A.n 0) (.pointer (some ⟨w.heap.size, 0, none⟩)) w' := by
  obtain ⟨v, hv, hr, h1⟩ := zeroT_run (σ := σ) hz
  have hl : z.length ≤ v.cells.size := by have := hr.1; simp at this; omega
  obtain ⟨σ', k1, k2, k3, k4⟩ := new_step h hb v.cells t z hl (fun j c hj => by
    have hlt : j < v.cells.toList.length := by rw [← hr.1]; exact (List.getElem?_eq_some_iff.1 hj).1
    exact ⟨v.cells.toList[j], by simp, hr.2 _ _ _ hj (List.getElem?_eq_getElem hlt), h1 _ (List.getElem_mem hlt)⟩)
  exact ⟨_, by simp [Instr.alloc, hv w, newVar, newRow_run], σ', k1, k2, .ptr _ _ _ _ k4, k3⟩

theorem box_run {B : Nat → Prop} {w0 : World} {A : AHeap} (h : Sim B σ A w) (hb : Keeps B w0 w) {t : TypeId} {x : AV} {v : Value} (hx : Rep σ x v) (hs : x.solid = true) :
    ∃ w', (Instr.box t v).run P w = .ok (.pointer (some ⟨w.heap.size, 0, none⟩)) w' ∧ Step B w0 σ (A.push x.cells) (.ptr A.n 0) (.pointer (some ⟨w.heap.size, 0, none⟩)) w' := by
  have hr := hx.cells hs
  have h1 := hx.cells_one hs
  have hl : x.cells.length ≤ v.cells.size := by have := hr.1; simp at this ⊢; omega
  obtain ⟨σ', k1, k2, k3, k4⟩ := new_step h hb v.cells t x.cells hl (fun j c hj => by
    have hlt : j < v.cells.toList.length := by rw [← hr.1]; exact (List.getElem?_eq_some_iff.1 hj).1
    exact ⟨v.cells.toList[j], by simp, hr.2 _ _ _ hj (List.getElem?_eq_getElem hlt), h1 _ (List.getElem_mem hlt)⟩)
  exact ⟨_, by simp [Instr.box, newVar, newRow_run], σ', k1, k2, .ptr _ _ _ _ k4, k3⟩

theorem flat_get {α : Type} (z : List α) : ∀ (n k : Nat), k < n * z.length → ((List.replicate n z).flatten)[k]? = z[k % z.length]?
  | 0, k, h => by simp at h
  | n + 1, k, h => by
    rw [List.replicate_succ, List.flatten_cons]
    rcases Nat.lt_or_ge k z.length with hk | hk
    · rw [List.getElem?_append_left hk, Nat.mod_eq_of_lt hk]
    · rw [List.getElem?_append_right hk, flat_get z n (k - z.length) (by rw [Nat.add_mul] at h; omega), Nat.mod_eq_sub_mod hk]
theorem flat_len {α : Type} (z : List α) (n : Nat) : ((List.replicate n z).flatten).length = n * z.length := by
  induction n with
  | zero => simp
  | succ n ih => rw [List.replicate_succ, List.flatten_cons, List.length_append, ih, Nat.add_mul]; omega

theorem made_flat (z : Array Value) (n : Nat) : (madeCells z (n * z.size)).toList = (List.replicate n z.toList).flatten := by
  apply List.ext_getElem?
  intro k
  rcases Nat.lt_or_ge k (n * z.size) with hk | hk
  · rw [flat_get _ _ _ (by simpa using hk)]
    have hz : 0 < z.size := by
      rcases Nat.eq_zero_or_pos z.size with h | h
      · rw [h] at hk; simp at hk
      · exact h
    have hm : k % z.size < z.size := Nat.mod_lt _ hz
    rw [List.getElem?_eq_getElem (by simpa [size_madeCells] using hk)]
    simp [madeCells, hm]
  · rw [List.getElem?_eq_none (by simpa [size_madeCells] using hk), List.getElem?_eq_none (by rw [flat_len]; simpa using hk)]

theorem RepL.flat {z : List AV} {vs : List Value} (h : RepL σ z vs) : ∀ n, RepL σ (List.replicate n z).flatten (List.replicate n vs).flatten
  | 0 => RepL.nil σ
  | n + 1 => by
    rw [List.replicate_succ, List.replicate_succ, List.flatten_cons, List.flatten_cons]
    exact h.append (RepL.flat h n)

/-- Zero cells, over and over. -/
theorem zeros_rep {z : List AV} {v : Value} (hr : RepL σ z v.cells.toList) (h1 : ∀ u ∈ v.cells.toList, u.oneCell' = true) {e n : Nat} (he : z.length = e) :
    RepL σ (newCells e n z) (madeCells v.cells (n * e)).toList ∧ ∀ u ∈ (madeCells v.cells (n * e)).toList, u.oneCell' = true := by
  have hvl : e = v.cells.size := by have := hr.1; simp at this; omega
  subst hvl
  rw [made_flat]
  exact ⟨hr.flat n, fun u hu => by
    obtain ⟨l, hl, hu⟩ := List.mem_flatten.1 hu
    rw [List.eq_of_mem_replicate hl] at hu
    exact h1 u hu⟩

theorem cells_of {xs : List AV} {us : List Value} (hr : RepL σ xs us) (h1 : ∀ u ∈ us, u.oneCell' = true) (cells : Array Value) (hc : ∀ (j : Nat) (u : Value), us[j]? = some u → cells[j]? = some u) :
    ∀ (j : Nat) c, xs[j]? = some c → ∃ v, cells[j]? = some v ∧ Rep σ c v ∧ v.oneCell' = true := by
  intro j c hj
  have hlt : j < us.length := by rw [← hr.1]; exact (List.getElem?_eq_some_iff.1 hj).1
  exact ⟨us[j], hc j _ (List.getElem?_eq_getElem hlt), hr.2 _ _ _ hj (List.getElem?_eq_getElem hlt), h1 _ (List.getElem_mem hlt)⟩

theorem mks_run {B : Nat → Prop} {w0 : World} {A : AHeap} (h : Sim B σ A w) (hb : Keeps B w0 w) {t e : TypeId} (he : elT P t = some e) {esz bytes : Nat} (hn : szT P e = some esz) (hby : byT P e = some bytes) {z : List AV} (hz : zeroT P e = some z) (hzl : z.length = esz)
    {k k' : IntKind} {n : Int} (h0 : 0 ≤ n) (hm1 : n * ((bytes : Int) + 1) ≤ (mostBytes : Int)) :
    ∃ w', (Instr.makeSlice t (.int k n) (.int k' n)).run P w = .ok (.slice (some ⟨w.heap.size, 0, none⟩) n.toNat n.toNat) w' ∧
      Step B w0 σ (A.push (newCells esz n.toNat z)) (.ref A.n esz 0 n.toNat .tight) (.slice (some ⟨w.heap.size, 0, none⟩) n.toNat n.toNat) w' := by
  have hu := elT_spec he
  obtain ⟨i, hi, his⟩ := Option.map_eq_some_iff.1 hn
  obtain ⟨i', hi', hib⟩ := Option.map_eq_some_iff.1 hby
  rw [hi] at hi'
  obtain rfl := Option.some.inj hi'
  unfold zeroT at hz
  obtain ⟨v, hv, hzz⟩ := Option.bind_eq_some_iff.1 hz
  rw [hi] at hv
  simp only [Option.bind_some] at hv
  obtain ⟨hr, h1⟩ := ccVals_rep (σ := σ) hzz
  have hmul : 0 ≤ n * (bytes : Int) := Int.mul_nonneg h0 (Int.natCast_nonneg _)
  rw [Int.mul_add, Int.mul_one] at hm1
  have hmost : (mostBytes : Int) = 140737488355328 := rfl
  have hm : n * (bytes : Int) ≤ (mostBytes : Int) := by omega
  have hbig : n ≤ 9223372036854775807 := by omega
  have hmb : (i.bytes : Int) * n ≤ 281474976710656 := by
    have : (mostBytes : Int) = 140737488355328 := rfl
    rw [hib, Int.mul_comm]; omega
  have hrun := run_make (P := P) w t e i v hu hi hv k k' n n h0 (Int.le_refl _) hmb hbig
  obtain ⟨hz1, hz2⟩ := zeros_rep (n := n.toNat) hr h1 hzl
  rw [his] at hrun
  have hlen : (newCells esz n.toNat z).length = n.toNat * esz := by rw [newCells, flat_len, hzl]
  obtain ⟨σ', k1, k2, k3, k4⟩ := new_step h hb (madeCells v.cells (n.toNat * esz)) e (newCells esz n.toNat z) (by rw [hlen, size_madeCells]; exact Nat.le_refl _) (cells_of hz1 hz2 _ (fun j u hu => by simpa using hu))
  refine ⟨_, hrun, σ', k1, k2, ?_, k3⟩
  refine .ref _ _ _ _ _ _ _ w.heap.size (n.toNat * esz) (Nat.le_refl _) (by simp only [maxLen]; omega) (fun _ => rfl) (fun _ => by simp) (by rw [k4, size_madeCells]) (by simp) (fun h => by cases h)

theorem bsl_run {B : Nat → Prop} {n0 : Nat} {w0 : World} {s : St} {a : Act} (hs : SimSt B w0 n0 σ s a w) {t e : TypeId} (he : elT P t = some e) {esz len : Nat} (hn : szT P e = some esz) {z : List AV} (hz : zeroT P e = some z) (hzl : z.length = esz) (hpos : esz ≠ 0) (hbig : len * esz ≤ 16777216)
    {parts : Array (Nat × Operand)} {ps : List (Nat × Opd)} (hps : (parts.toList.mapM fun (p : Nat × Operand) => (ccOpd p.2).map fun x => (p.1, x)) = some ps) {cs : List AV}
    (hf : fillA (newCells esz len z) (ps.map fun p => (p.1 * esz, esz, s.ev p.2)) = some cs) :
    ∃ w', (Instr.buildSlice t len (parts.map fun (i, x) => (i, a.eval x))).run P w = .ok (.slice (some ⟨w.heap.size, 0, none⟩) len len) w' ∧
      Step B w0 σ (s.A.push cs) (.ref s.A.n esz 0 len .tight) (.slice (some ⟨w.heap.size, 0, none⟩) len len) w' := by
  have hu := elT_spec he
  obtain ⟨v, hv, hr, h1⟩ := zeroT_run (σ := σ) hz
  obtain ⟨hl, hget⟩ := mapM_some_length _ _ _ hps
  have hw : ∀ (i : Nat) (p : Nat × Operand), parts.toList[i]? = some p → ∃ x, ccOpd p.2 = some x ∧ ps[i]? = some (p.1, x) := by
    intro i p hpi
    obtain ⟨y, hy, hf⟩ := hget i p hpi
    obtain ⟨x, hx, rfl⟩ := Option.map_eq_some_iff.1 hf
    exact ⟨x, hx, hy⟩
  let mid : List (Nat × AV) := (parts.toList.zip ps).map fun q => (q.1.1, s.ev q.2.2)
  have hml : mid.length = parts.toList.length := by simp [mid, hl]
  obtain ⟨hz1, hz2⟩ := zeros_rep (n := len) hr h1 hzl
  obtain ⟨cells', hfc, hr', h1', hsz⟩ := fill_ok (σ := σ) (fun i => some (i * esz, esz)) mid ((parts.toList.map fun (i, x) => (i, a.eval x))) (ps.map fun p => (p.1 * esz, esz, s.ev p.2)) _ cs (madeCells v.cells (len * esz)) (by simp [hml]) (by simp [hml, hl])
    (fun j p hj => by
      simp only [mid, List.getElem?_map, Option.map_eq_some_iff] at hj
      obtain ⟨q, hq, rfl⟩ := hj
      rw [List.getElem?_zip_eq_some] at hq
      obtain ⟨x, hx, hy⟩ := hw j q.1 hq.1
      rw [hq.2] at hy
      have hqe := Option.some.inj hy
      refine ⟨a.eval q.1.2, by simp [List.getElem?_map, hq.1], by rw [hqe]; exact ev_rep hs hx, _, _, rfl, ?_⟩
      simp [List.getElem?_map, hq.2, hqe]) hz1 hz2 hf
  have hcl : cs.length = cells'.size := by have := hr'.1; simpa using this
  rw [size_madeCells] at hsz
  obtain ⟨σ', k1, k2, k3, k4⟩ := new_step hs.sim hs.below cells' e cs (by omega) (cells_of hr' h1' _ (fun j u hu => by simpa using hu))
  have hpa : (parts.map fun (i, x) => (i, a.eval x)).toList = parts.toList.map fun (i, x) => (i, a.eval x) := by simp
  refine ⟨_, ?_, σ', k1, k2, .ref _ _ _ _ _ _ _ w.heap.size (len * esz) (Nat.le_refl _) ?_ (fun _ => rfl) (fun _ => by simp) (by rw [k4, hsz]) (by simp) (fun h => by cases h), k3⟩
  · have hnb : ¬ (len * esz > 2 ^ 24) := by omega
    simp only [Instr.buildSlice, Sem.run_bind, run_underlying hu, Result.andThen_ok, run_sizeOf hn, if_neg hnb, Sem.run_pure]
    by_cases h0 : len * esz = 0
    · have hm0 : (Array.range (len * esz)).map (fun x => (#[] : Array Value)[x % (#[] : Array Value).size]!) = madeCells v.cells (len * esz) := by rw [h0]; simp [madeCells]
      rw [if_pos h0]
      simp only [Sem.run_bind, Sem.run_pure, Result.andThen_ok]
      rw [hm0, hpa, hfc]
      simp [newRow_run]
    · rw [if_neg h0]
      simp only [Sem.run_bind, hv w, Sem.run_pure, Result.andThen_ok]
      rw [hpa]
      have hfc' : Instr.fill (fun i => some (i * esz, esz)) ((Array.range (len * esz)).map (fun x => v.cells[x % v.cells.size]!)) (parts.toList.map fun (i, x) => (i, a.eval x)) = some cells' := hfc
      rw [hfc']
      simp [newRow_run]
  · simp only [maxLen]
    have : len * 1 ≤ len * esz := Nat.mul_le_mul_left _ (by omega)
    omega

end Go.Proofs.YtllahdjejcideaaAi
