/- One order stands for all. -/
import Derived.Test.YtllahdjejcideaaAiR
namespace Go.Proofs.YtllahdjejcideaaAi
open Go Go.RowKit
set_option linter.unusedVariables false
set_option linter.unusedSimpArgs false

variable {P : Program} {S : Spec}

theorem mem_readyA {ops : List (AOper × List Nat)} {done : List Nat} {i : Nat} : i ∈ readyA ops done ↔ ∃ o, ops[i]? = some o ∧ i ∉ done ∧ ∀ d ∈ o.2, d ∈ done := by
  unfold readyA
  rw [List.mem_filter, List.mem_range]
  constructor
  · rintro ⟨h1, h2⟩
    rw [List.getElem?_eq_getElem h1] at *
    refine ⟨_, rfl, ?_⟩
    simpa using h2
  · rintro ⟨o, ho, h1, h2⟩
    have hlt := (List.getElem?_eq_some_iff.1 ho).1
    refine ⟨hlt, ?_⟩
    rw [ho]
    simpa [h1] using h2

theorem readyA_cong {ops : List (AOper × List Nat)} {done done' : List Nat} (h : ∀ x, x ∈ done ↔ x ∈ done') : readyA ops done = readyA ops done' := by
  unfold readyA
  apply List.filter_congr
  intro i hi
  have hc : ∀ x, done.contains x = done'.contains x := fun x => by
    rw [Bool.eq_iff_iff]; simp [h x]
  rw [hc i]
  congr 1
  cases ops[i]? with
  | none => rfl
  | some o =>
    simp only
    congr 1
    funext x
    exact hc x

theorem wpg_mono {s : St} {o : AOper} {K K' : St → Prop} (h : ∀ s, K s → K' s) (hK : wpg P S s o K) : wpg P S s o K' := by
  unfold wpg wpo at *
  exact optW_mono (fun b hb => brW_mono (fun hK => opW_mono (fun _ _ => h _) hK) (h _) hb) hK

theorem wps_mono {K K' : St → Prop} (h : ∀ s, K s → K' s) : ∀ (ops : List AOper) (s : St), wps P S ops s K → wps P S ops s K'
  | [], s, hK => h s hK
  | o :: r, s, hK => wpg_mono (fun s' hk => wps_mono h r s' hk) hK

theorem wpall_cong {ops : List (AOper × List Nat)} {K : St → Prop} : ∀ (n : Nat) {done done' : List Nat} (s : St), (∀ x, x ∈ done ↔ x ∈ done') → wpall P S ops n done s K → wpall P S ops n done' s K
  | 0, _, _, s, h, hK => ⟨by rw [← readyA_cong h]; exact hK.1, hK.2⟩
  | n + 1, _, _, s, h, hK => by
    refine ⟨by rw [← readyA_cong h]; exact hK.1, fun i hi o ho => ?_⟩
    rw [← readyA_cong h] at hi
    exact wpg_mono (fun s' hk => wpall_cong n s' (fun x => by simp [h x]) hk) (hK.2 i hi o ho)

/-- What is behind is behind. -/
def Closed (ops : List (AOper × List Nat)) (anc : List Nat) (done : List Nat) : Prop := ∀ k ∈ done, ∀ i, i < ops.length → (anc.getD k 0).testBit i = true → i ∈ done

theorem ancOk_spec {ops : List (AOper × List Nat)} {anc : List Nat} (h : ancOk ops anc = true) {j i : Nat} {o : AOper × List Nat} (hj : ops[j]? = some o) (hi : i < ops.length) (hb : (anc.getD j 0).testBit i = true) : ∃ d ∈ o.2, d = i ∨ (anc.getD d 0).testBit i = true := by
  unfold ancOk at h
  rw [List.all_eq_true] at h
  have h1 := h j (List.mem_range.2 (List.getElem?_eq_some_iff.1 hj).1)
  rw [hj] at h1
  simp only [List.all_eq_true, List.mem_range] at h1
  have h2 := h1 i hi
  rw [hb] at h2
  simpa using h2

/-- What may come next has all that is ahead of it done. -/
theorem Closed.ready {ops : List (AOper × List Nat)} {anc : List Nat} (ha : ancOk ops anc = true) {done : List Nat} (hc : Closed ops anc done) {j : Nat} (hj : j ∈ readyA ops done) {i : Nat} (hi : i < ops.length) (hb : (anc.getD j 0).testBit i = true) : i ∈ done := by
  obtain ⟨o, ho, _, hd⟩ := mem_readyA.1 hj
  obtain ⟨d, hd', h⟩ := ancOk_spec ha ho hi hb
  rcases h with rfl | h
  · exact hd _ hd'
  · exact hc d (hd d hd') i hi h

theorem Closed.cons {ops : List (AOper × List Nat)} {anc : List Nat} (ha : ancOk ops anc = true) {done : List Nat} (hc : Closed ops anc done) {j : Nat} (hj : j ∈ readyA ops done) : Closed ops anc (j :: done) := by
  intro k hk i hi hb
  rcases List.mem_cons.1 hk with rfl | hk
  · exact List.mem_cons_of_mem _ (hc.ready ha hj hi hb)
  · exact List.mem_cons_of_mem _ (hc k hk i hi hb)

theorem ready_cons {ops : List (AOper × List Nat)} {done : List Nat} {i j : Nat} (hj : j ∈ readyA ops done) (hne : j ≠ i) : j ∈ readyA ops (i :: done) := by
  obtain ⟨o, ho, h1, h2⟩ := mem_readyA.1 hj
  exact mem_readyA.2 ⟨o, ho, by simp [hne, h1], fun d hd => List.mem_cons_of_mem _ (h2 d hd)⟩

theorem wpall_first {ops : List (AOper × List Nat)} {anc : List Nat} (ha : ancOk ops anc = true) {K : St → Prop} {i : Nat} {oi : AOper × List Nat} (hoi : ops[i]? = some oi) {v : AV} (hp : (isPure oi.1.op || isLd oi.1.op) = true) :
    ∀ (n : Nat) (done : List Nat) (s : St), (∀ j oj, ops[j]? = some oj → j ∉ done → j ≠ i → (anc.getD j 0).testBit i = true ∨ commutes oi.1 oj.1 = true) → i ∈ readyA ops done → Closed ops anc done → yld S oi.1 v s →
      wpall P S ops n (i :: done) (s.put oi.1.dst v) K → wpall P S ops (n + 1) done s K := by
  have hilt := (List.getElem?_eq_some_iff.1 hoi).1
  intro n
  induction n with
  | zero =>
    intro done s hc hr hcl hy H
    refine ⟨fun h0 => (by rw [h0] at hr; cases hr), fun j hj o ho => ?_⟩
    by_cases hji : j = i
    · subst hji
      rw [hoi] at ho
      obtain rfl := Option.some.inj ho
      exact (wpg_yld hp).2 ⟨v, hy, H⟩
    · have := ready_cons hj hji
      rw [H.1] at this
      cases this
  | succ n ih =>
    intro done s hc hr hcl hy H
    refine ⟨fun h0 => (by rw [h0] at hr; cases hr), fun j hj o ho => ?_⟩
    by_cases hji : j = i
    · subst hji
      rw [hoi] at ho
      obtain rfl := Option.some.inj ho
      exact (wpg_yld hp).2 ⟨v, hy, H⟩
    · obtain ⟨_, _, hid, _⟩ := mem_readyA.1 hr
      obtain ⟨_, _, hjd, _⟩ := mem_readyA.1 hj
      have hcm := (hc j o ho hjd hji).resolve_left fun hb => hid (hcl.ready ha hj hilt hb)
      have h1 := H.2 j (ready_cons hj hji) o ho
      refine wpg_mono (fun s' hk => ?_) (wpg_frame hcm hy h1)
      refine ih (j :: done) s' (fun k ok hk' hkd hki => hc k ok hk' (fun h => hkd (List.mem_cons_of_mem _ h)) hki) (ready_cons hr (Ne.symm hji)) (hcl.cons ha hj) hk.2 ?_
      exact wpall_cong n _ (fun x => by simp only [List.mem_cons]; constructor <;> (rintro (h | h | h) <;> simp [h])) hk.1

theorem lin_sound {ops : List (AOper × List Nat)} {anc : List Nat} (ha : ancOk ops anc = true) {K : St → Prop} :
    ∀ (order : List Nat) (n : Nat) (done : List Nat) (s : St), order.length ≤ n → Closed ops anc done → linOk ops anc done order = true → wps P S (ordered ops order) s K → wpall P S ops n done s K := by
  intro order
  induction order with
  | nil =>
    intro n done s hn hcl h hK
    have h0 : readyA ops done = [] := by
      apply List.eq_nil_iff_forall_not_mem.2
      intro i hi
      obtain ⟨o, ho, h1, _⟩ := mem_readyA.1 hi
      simp only [linOk, List.all_eq_true, List.mem_range] at h
      exact h1 (by simpa using h i (List.getElem?_eq_some_iff.1 ho).1)
    cases n with
    | zero => exact ⟨h0, hK⟩
    | succ n => exact ⟨fun _ => hK, fun i hi => by rw [h0] at hi; cases hi⟩
  | cons i r ih =>
    intro n done s hn hcl h hK
    obtain ⟨n, rfl⟩ : ∃ m, n = m + 1 := ⟨n - 1, by simp at hn; omega⟩
    simp only [linOk, Bool.and_eq_true] at h
    obtain ⟨h1, h2⟩ := h
    cases hoi : ops[i]? with
    | none => rw [hoi] at h1; cases h1
    | some oi =>
      rw [hoi] at h1
      simp only [Bool.and_eq_true, Bool.not_eq_true', List.all_eq_true, List.mem_range] at h1
      obtain ⟨⟨h3, h4⟩, h5⟩ := h1
      have hilt := (List.getElem?_eq_some_iff.1 hoi).1
      have hr : i ∈ readyA ops done := mem_readyA.2 ⟨oi, hoi, by simpa using h3, fun d hd => by simpa using h4 d hd⟩
      have hcl' := hcl.cons ha hr
      have hK' : wpg P S s oi.1 fun s' => wps P S (ordered ops r) s' K := by simpa [ordered, hoi, wps] using hK
      have hcm : ∀ j oj, ops[j]? = some oj → j ∉ done → j ≠ i → (anc.getD j 0).testBit i = true ∨ commutes oi.1 oj.1 = true := by
        intro j oj hj hjd hji
        have := h5 j (List.getElem?_eq_some_iff.1 hj).1
        rw [hj] at this
        simpa [hjd, hji] using this
      have hrest : ∀ s', wps P S (ordered ops r) s' K → wpall P S ops n (i :: done) s' K := fun s' hk => ih n (i :: done) s' (by simp at hn; omega) hcl' h2 hk
      by_cases hall : ∃ j oj, ops[j]? = some oj ∧ j ∉ done ∧ j ≠ i ∧ commutes oi.1 oj.1 = true
      · obtain ⟨_, _, _, _, _, hcom⟩ := hall
        have hp : (isPure oi.1.op || isLd oi.1.op) = true := by
          rcases (commutes_spec hcom).2.2.2 with h | h <;> simp [h]
        obtain ⟨v, hy, hk⟩ := (wpg_yld hp).1 hK'
        exact wpall_first ha hoi hp n done s hcm hr hcl hy (hrest _ hk)
      · refine ⟨fun h0 => (by rw [h0] at hr; cases hr), fun j hj o ho => ?_⟩
        by_cases hji : j = i
        · subst hji
          rw [hoi] at ho
          obtain rfl := Option.some.inj ho
          exact wpg_mono hrest hK'
        · exfalso
          obtain ⟨_, _, hid, _⟩ := mem_readyA.1 hr
          obtain ⟨_, _, hjd, _⟩ := mem_readyA.1 hj
          rcases hcm j o ho hjd hji with hb | hc
          · exact hid (hcl.ready ha hj hilt hb)
          · exact hall ⟨j, o, ho, hjd, hji, hc⟩

end Go.Proofs.YtllahdjejcideaaAi
