/- Memory: what is written, made and copied. -/
import Derived.Test.YtllahdjejcideaaAiJ
namespace Go.Proofs.YtllahdjejcideaaAi
open Go Go.RowKit
set_option linter.unusedVariables false
set_option linter.unusedSimpArgs false

variable {P : Program} {σ : Sg} {w : World}

theorem Sim.setRow {B : Nat → Prop} {A : AHeap} (h : Sim B σ A w) {b : Nat} {cs : List AV} (hb : A b = some cs) {c sz : Nat} (hn : σ.nm b = some (c, sz)) (cur' : Array Value) (cs' : List AV)
    (hsz : ∀ c0 e fr, w.heap[c]? = some (.cells c0 e fr) → cur'.size = c0.size) (hl : cs'.length ≤ cur'.size)
    (hr : ∀ (j : Nat) c, cs'[j]? = some c → ∃ v, cur'[j]? = some v ∧ Rep σ c v ∧ v.oneCell' = true) : Sim B σ (A.set b cs') (w.setRow c cur') := by
  obtain ⟨c', cur, e, hn', h1, h2, hh, _, _⟩ := h.own b cs hb
  rw [hn] at hn'
  injection hn' with hn'; injection hn' with e1 hs
  subst e1
  have hnew := setRow_heap w c cur cur' e (0, 0) hh
  refine ⟨by simpa using h.base, fun i o hi => ?_, h.low, fun i c1 n hi => ?_, fun i hi => h.tot i (by simpa using hi), fun i ob hi => ?_, fun i i' o o' c1 n n' e1 e2 => ?_⟩
  · have hne : i ≠ c := fun e' => by subst e'; rw [h2] at hi; cases hi
    rw [setRow_other w c i cur' hne]; exact h.mem i o hi
  · obtain ⟨k1, k2⟩ := h.nm i c1 n hi
    refine ⟨by simpa using k1, ?_⟩
    by_cases hib : c1 = c
    · subst hib
      obtain ⟨cs1, t1, fr1, k3, k4⟩ := k2
      exact ⟨cur', e, (0, 0), hnew, by rw [hsz _ _ _ k3, k4]⟩
    · rw [setRow_other w c c1 cur' hib]; exact k2
  · rw [AHeap.set_at] at hi
    split at hi
    · rename_i hib
      rw [hib.1]
      obtain rfl := Option.some.inj hi
      exact ⟨c, cur', e, by rw [hsz _ _ _ hh, ← hs]; exact hn, h1, h2, hnew, hl, hr⟩
    · rename_i hib
      have hib : i ≠ b := fun e => hib ⟨e, AHeap.lt hb⟩
      refine (h.own i ob hi).same fun c1 n1 hn1 => setRow_other w c c1 cur' fun hcc => ?_
      subst hcc
      exact hib (h.inj _ _ _ _ _ _ _ hi hb hn1 hn)
  · have key : ∀ {j oj}, (A.set b cs') j = some oj → ∃ oj', A j = some oj' := by
      intro j oj hj
      rw [AHeap.set_at] at hj
      split at hj
      · rename_i hjb; exact ⟨cs, by rw [hjb.1]; exact hb⟩
      · exact ⟨_, hj⟩
    obtain ⟨_, e1⟩ := key e1
    obtain ⟨_, e2⟩ := key e2
    exact h.inj i i' _ _ c1 n n' e1 e2

theorem below_row {B : Nat → Prop} {g : Nat} {w0 w : World} (hb : Keeps B w0 w) (hBg : ¬ B g) (cs : Array Value) : Keeps B w0 (w.setRow g cs) :=
  hb.trans ⟨rfl, rfl, rfl, by simp, fun i hi => setRow_other w g i cs (fun e => hBg (e ▸ hi))⟩

theorem spliceV_get (cur : List Value) (off : Nat) (vs : List Value) (h : off + vs.length ≤ cur.length) (j : Nat) :
    (cur.take off ++ vs ++ cur.drop (off + vs.length))[j]? = if off ≤ j ∧ j < off + vs.length then vs[j - off]? else cur[j]? := by
  have h1 : (cur.take off).length = off := by simp; omega
  have h2 : (cur.take off ++ vs).length = off + vs.length := by simp; omega
  rcases Nat.lt_or_ge j (off + vs.length) with hj | hj
  · rw [List.getElem?_append_left (by omega)]
    rcases Nat.lt_or_ge j off with hj' | hj'
    · rw [List.getElem?_append_left (by omega), List.getElem?_take, if_pos hj', if_neg (by omega)]
    · rw [List.getElem?_append_right (by omega), h1, if_pos ⟨hj', hj⟩]
  · rw [List.getElem?_append_right (by omega), h2, List.getElem?_drop, if_neg (by omega)]
    congr 1
    omega

theorem setCells_get : ∀ (vs : List AV) (cs : List AV) (off j : Nat), off + vs.length ≤ cs.length → (setCells cs off vs)[j]? = if off ≤ j ∧ j < off + vs.length then vs[j - off]? else cs[j]?
  | [], cs, off, j, h => by simp [setCells]; intro h1 h2; omega
  | v :: vs, cs, off, j, h => by
    rw [setCells, setCells_get vs _ (off + 1) j (by simp at h ⊢; omega)]
    simp only [List.length_cons] at h ⊢
    by_cases h0 : j = off
    · subst h0
      rw [if_neg (by omega), if_pos (by omega), List.getElem?_set_self (by omega)]
      simp
    · by_cases h1 : off + 1 ≤ j ∧ j < off + 1 + vs.length
      · rw [if_pos h1, if_pos (by omega)]
        obtain ⟨k, hk⟩ : ∃ k, j - off = k + 1 := ⟨j - off - 1, by omega⟩
        rw [hk, List.getElem?_cons_succ]
        congr 1
        omega
      · rw [if_neg h1, if_neg (by omega), List.getElem?_set_ne (Ne.symm h0)]

/-- Cells are stored into an object. -/
theorem store_run {B : Nat → Prop} {w0 : World} {A : AHeap} (h : Sim B σ A w) (hb0 : Keeps B w0 w) {b off : Nat} {cs xs : List AV} {vs : List Value} (hb : A b = some cs) {c sz : Nat} (hn : σ.nm b = some (c, sz)) (hx : RepL σ xs vs) (h1 : ∀ v ∈ vs, v.oneCell' = true) (hfit : off + xs.length ≤ cs.length) :
    ∃ w', (storeCells ⟨c, off, none⟩ vs).run P w = .ok () w' ∧ Sim B σ (A.set b (setCells cs off xs)) w' ∧ Keeps B w0 w' := by
  obtain ⟨c', cur, e, hn', hB, _, hh, hcl, hr⟩ := h.own b cs hb
  rw [hn] at hn'
  injection hn' with hn'; injection hn' with e1 hs
  subst e1
  have hlv : xs.length = vs.length := hx.1
  have hst := run_storeCells_at P c off e vs 0 cur w hh (by omega) h1
  simp only [Nat.add_zero] at hst
  refine ⟨_, hst, h.setRow hb hn _ _ (fun c e' fr hc => ?_) ?_ (fun j c hj => ?_), below_row hb0 hB _⟩
  · rw [hh] at hc
    injection hc with hc
    injection hc with hc
    subst hc
    simp; omega
  · rw [setCells_length]; simp; omega
  · rw [setCells_get xs cs off j hfit] at hj
    have hget := spliceV_get cur.toList off vs (by simp; omega) j
    simp only [List.getElem?_toArray, hget]
    by_cases hc : off ≤ j ∧ j < off + xs.length
    · rw [if_pos hc] at hj
      rw [if_pos (by omega)]
      have hlt : j - off < vs.length := by omega
      exact ⟨vs[j - off], List.getElem?_eq_getElem hlt, hx.2 _ _ _ hj (List.getElem?_eq_getElem hlt), h1 _ (List.getElem_mem hlt)⟩
    · rw [if_neg hc] at hj
      rw [if_neg (by omega)]
      obtain ⟨v, h2, h3, h4⟩ := hr j c hj
      exact ⟨v, by simpa using h2, h3, h4⟩

theorem flatMap_get (e : Nat) : ∀ (xs : List AV) (k : Nat), (∀ x ∈ xs, x.cells.length = e) → 0 < e → (xs.flatMap AV.cells)[k]? = (xs[k / e]?).bind fun x => x.cells[k % e]?
  | [], k, _, _ => by simp
  | x :: xs, k, h, he => by
    rw [List.flatMap_cons]
    have hx := h x (List.mem_cons_self ..)
    rcases Nat.lt_or_ge k e with hk | hk
    · rw [List.getElem?_append_left (by omega), Nat.div_eq_of_lt hk, Nat.mod_eq_of_lt hk]
      rfl
    · rw [List.getElem?_append_right (by omega), hx, flatMap_get e xs (k - e) (fun y hy => h y (List.mem_cons_of_mem _ hy)) he]
      have h1 : k / e = (k - e) / e + 1 := by
        rw [Nat.div_eq k e, if_pos ⟨he, hk⟩]
      have h2 : k % e = (k - e) % e := Nat.mod_eq_sub_mod hk
      rw [h1, h2, List.getElem?_cons_succ]

theorem flatMap_len (e : Nat) : ∀ (xs : List AV), (∀ x ∈ xs, x.cells.length = e) → (xs.flatMap AV.cells).length = xs.length * e
  | [], _ => by simp
  | x :: xs, h => by
    rw [List.flatMap_cons, List.length_append, h x (List.mem_cons_self ..), flatMap_len e xs (fun y hy => h y (List.mem_cons_of_mem _ hy)), List.length_cons, Nat.add_mul]
    omega

/-- The cells of a slice, as they lie in memory. -/
theorem src_run {B : Nat → Prop} {A : AHeap} (h : Sim B σ A w) {e m : Nat} (he : 0 < e) {x : AV} {v : Value} (hx : Rep σ x v) {ys : List AV} (h1 : sliceCells A e x = some ys) (h2 : x.len? = some m) :
    ∃ us : List Value, RepL σ ys us ∧ (∀ u ∈ us, u.oneCell' = true) ∧ us.length = m * e ∧ ys.length = m * e ∧ (∀ w' : World, (Builtin.lenOf v).run P w' = .ok m w') ∧
      ∀ k : Nat, k ≤ m → ∀ w' : World, w'.heap = w.heap → (Builtin.firstCells e k v).run P w' = .ok (us.take (k * e)).toArray w' := by
  cases hx <;> simp only [sliceCells] at h1 <;> first | (cases h1; done) | skip
  · rename_i tt ad cap h3 h4 h5
    simp at h1
    subst h1
    simp [AV.len?] at h2
    subst h2
    refine ⟨[], RepL.nil σ, by simp, by simp, by simp, fun w' => rfl, fun k hk w' _ => ?_⟩
    have : k = 0 := by omega
    subst this
    cases ad <;> simp [Builtin.firstCells, loadCells, loadCellsFrom]
  · rename_i xs tt b off s cap val h3 h4 h5 h6 h7 h8 h9 h10
    split at h1
    · rename_i hall
      obtain rfl := Option.some.inj h1
      simp [AV.len?] at h2
      subst h2
      have hce : ∀ x ∈ xs, x.cells.length = e := fun x hx => beq_iff_eq.1 (List.all_eq_true.1 hall x hx)
      have hlen := flatMap_len e xs hce
      have hse : ∀ (i : Nat) (x : AV), xs[i]? = some x → s = e := fun i x hx => by rw [← h6 i x hx]; exact hce x (List.mem_of_getElem? hx)
      let us : List Value := (List.range (xs.length * e)).map fun k => val (k / e) (k % e)
      have husl : us.length = xs.length * e := by simp [us]
      have hus : ∀ (k : Nat) (u : Value), us[k]? = some u → k < xs.length * e ∧ u = val (k / e) (k % e) := by
        intro k u hu
        obtain ⟨hk, rfl⟩ := List.getElem?_eq_some_iff.1 hu
        exact ⟨by omega, by simp [us]⟩
      have hkey : ∀ (k : Nat) (c : AV), (xs.flatMap AV.cells)[k]? = some c → σ.cell b (off + k) = some (val (k / e) (k % e)) ∧ Rep σ c (val (k / e) (k % e)) := by
        intro k c hk
        rw [flatMap_get e xs k hce he] at hk
        obtain ⟨x, hx, hc⟩ := Option.bind_eq_some_iff.1 hk
        have hm := h7 _ _ hx _ _ hc
        rw [hse _ _ hx] at hm
        refine ⟨?_, h8 _ _ hx _ _ hc⟩
        rw [Nat.add_assoc, Nat.mul_comm, Nat.div_add_mod] at hm
        exact hm
      refine ⟨us, ⟨by rw [hlen, husl], fun k c u hk hu => ?_⟩, fun u hu => ?_, husl, hlen, fun w' => rfl, fun k hk w' hw' => ?_⟩
      · rw [(hus k u hu).2]; exact (hkey k c hk).2
      · obtain ⟨k, hk⟩ := List.getElem?_of_mem hu
        rw [(hus k u hk).2]; exact h9 _ _
      · have hcell : ∀ (j : Nat) (u : Value), us[j]? = some u → w'.cell? ((⟨b, off, none⟩ : Addr).add j) = some u := by
          intro j u hj
          obtain ⟨hlt, rfl⟩ := hus j u hj
          have hlt' : j < (xs.flatMap AV.cells).length := by omega
          have := (hkey j _ (List.getElem?_eq_getElem hlt')).1
          rw [add_plain]
          have hc := h.cell this
          simpa [World.cell?, hw'] using hc
        have hl' : (us.take (k * e)).length = k * e := by
          rw [List.length_take, husl]
          exact Nat.min_eq_left (Nat.mul_le_mul_right _ hk)
        have := run_loadCells_list (P := P) (w := w') ⟨b, off, none⟩ (us.take (k * e)) (fun j u hj => hcell j u (by
          rw [List.getElem?_take] at hj
          split at hj
          · exact hj
          · cases hj))
        rw [hl'] at this
        simpa [Builtin.firstCells] using this
    · cases h1
  · rename_i b e' o n tt ad cap c0 sz h3 h4 h5 h6 h7 h8 h9
    split at h1
    · rename_i hee
      subst hee
      obtain ⟨cs, hb, h1⟩ := Option.bind_eq_some_iff.1 h1
      split at h1
      · rename_i hfit
        obtain rfl := Option.some.inj h1
        simp [AV.len?] at h2
        subst h2
        obtain ⟨c', cur, t, hn', _, _, hh, hcl, hr⟩ := h.own b cs hb
        rw [h7] at hn'
        injection hn' with hn'; injection hn' with e1 hs
        subst e1
        let us : List Value := (cur.toList.drop (o * e')).take (n * e')
        have hfit' : o * e' + n * e' ≤ cs.length := by rw [← Nat.add_mul]; exact hfit
        have husl : us.length = n * e' := by simp [us]; omega
        have hget : ∀ (k : Nat) (u : Value), us[k]? = some u → k < n * e' ∧ cur[o * e' + k]? = some u := by
          intro k u hu
          have hlt : k < n * e' := by have := (List.getElem?_eq_some_iff.1 hu).1; omega
          simp only [us, List.getElem?_take, if_pos hlt, List.getElem?_drop] at hu
          exact ⟨hlt, by simpa using hu⟩
        have hkey : ∀ (k : Nat) (u : Value), us[k]? = some u → ∃ c, cs[o * e' + k]? = some c ∧ Rep σ c u ∧ u.oneCell' = true := by
          intro k u hu
          obtain ⟨hlt, hc⟩ := hget k u hu
          have hlt' : o * e' + k < cs.length := by omega
          obtain ⟨v, hv1, hv2, hv3⟩ := hr _ _ (List.getElem?_eq_getElem hlt')
          rw [hc] at hv1
          obtain rfl := Option.some.inj hv1
          exact ⟨_, List.getElem?_eq_getElem hlt', hv2, hv3⟩
        refine ⟨us, ⟨by simp [husl]; omega, fun k c u hk hu => ?_⟩, fun u hu => ?_, husl, by simp; omega, fun w' => rfl, fun k hk w' hw' => ?_⟩
        · obtain ⟨c', hc', hr', _⟩ := hkey k u hu
          have hlt := (hget k u hu).1
          rw [List.getElem?_take, if_pos hlt, List.getElem?_drop, hc'] at hk
          obtain rfl := Option.some.inj hk
          exact hr'
        · obtain ⟨k, hk⟩ := List.getElem?_of_mem hu
          obtain ⟨_, _, _, h1'⟩ := hkey k u hk
          exact h1'
        · by_cases hcap : cap = 0
          · have : k = 0 := by omega
            subst this
            simp [Builtin.firstCells, loadCells, loadCellsFrom]
          · have had := h6 hcap
            subst had
            have hl' : (us.take (k * e')).length = k * e' := by
              rw [List.length_take, husl]
              exact Nat.min_eq_left (Nat.mul_le_mul_right _ hk)
            have := run_loadCells_list (P := P) (w := w') ⟨c0, o * e', none⟩ (us.take (k * e')) (fun j u hj => by
              rw [List.getElem?_take] at hj
              split at hj
              · rw [add_plain]
                have := (hget j u hj).2
                simp [World.cell?, hw', hh, this]
              · cases hj)
            rw [hl'] at this
            simpa [Builtin.firstCells] using this
      · cases h1
    · cases h1

end Go.Proofs.YtllahdjejcideaaAi
