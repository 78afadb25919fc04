/- Operations that do nothing to memory compute what the abstract ones do. -/
import Derived.Test.YtllahdjejcideaaAiE
namespace Go.Proofs.YtllahdjejcideaaAi
open Go Go.RowKit
set_option linter.unusedVariables false
set_option linter.unusedSimpArgs false

theorem add_plain (b o n : Nat) : (⟨b, o, none⟩ : Addr).add n = ⟨b, o + n, none⟩ := by unfold Addr.add; split <;> simp_all

theorem Sim.cell {B : Nat → Prop} {σ : Sg} {A : AHeap} {w : World} (h : Sim B σ A w) {b off : Nat} {v : Value} (e : σ.cell b off = some v) : w.cell? ⟨b, off, none⟩ = some v := by
  unfold Sg.cell at e
  cases hm : σ.mem b with
  | none => simp [hm] at e
  | some o =>
    have hh := h.mem b o hm
    rw [hm] at e
    cases o <;> simp at e
    simp [World.cell?, hh, e]

theorem Sim.ownCell {B : Nat → Prop} {σ : Sg} {A : AHeap} {w : World} (h : Sim B σ A w) {b : Nat} {cs : List AV} (e : A b = some cs) {j : Nat} {x : AV} (hc : cs[j]? = some x) {c sz : Nat} (hn : σ.nm b = some (c, sz)) :
    ∃ u, w.cell? ⟨c, j, none⟩ = some u ∧ Rep σ x u ∧ u.oneCell' = true ∧ w.frozen? ⟨c, j, none⟩ = false := by
  obtain ⟨c', cur, t, hn', _, _, hh, _, hr⟩ := h.own b cs e
  rw [hn] at hn'
  injection hn' with hn'; injection hn' with h1 _
  subst h1
  obtain ⟨v, h1, h2, h3⟩ := hr j x hc
  exact ⟨v, by simp [World.cell?, hh, h1], h2, h3, by simp [World.frozen?, hh]⟩

/-- The address behind an abstract one. -/
theorem addOff_rep {σ : Sg} {p q : AV} {v : Value} {n : Nat} (h : Rep σ p v) (e : p.addOff n = some q) : ∃ ad : Addr, v = .pointer (some ad) ∧ ad.spot = none ∧ Rep σ q (.pointer (some ⟨ad.block, ad.off + n, none⟩)) := by
  cases h <;> simp [AV.addOff] at e
  · rename_i h1
    subst e; exact ⟨_, rfl, rfl, .ptr _ _ _ _ h1⟩
  · rename_i h1 h2 h3 h4 h5
    subst e
    refine ⟨_, rfl, rfl, ?_⟩
    simp only [Nat.add_assoc]
    exact .epsl _ _ _ _ _ _ _ _ h1 h2 h3 h4 h5
  · rename_i b e' o n' t i off c sz h1
    subst e
    refine ⟨_, rfl, rfl, ?_⟩
    simp only [Nat.add_assoc]
    have := Rep.epref (σ := σ) b e' o n' t i (off + n) c sz h1
    simpa [Nat.add_assoc] using this

theorem ldCell_rep {B : Nat → Prop} {σ : Sg} {A : AHeap} {w : World} (hs : Sim B σ A w) {p c : AV} {v : Value} (h : Rep σ p v) (e : ldCell A p = some c) :
    ∃ (ad : Addr) (u : Value), v = .pointer (some ad) ∧ ad.spot = none ∧ w.cell? ad = some u ∧ Rep σ c u ∧ u.oneCell' = true := by
  cases h <;> simp [ldCell] at e
  · rename_i b off c' sz hn
    obtain ⟨cs, hb, hc⟩ := Option.bind_eq_some_iff.1 e
    obtain ⟨u, h1, h2, h3, _⟩ := hs.ownCell hb hc hn
    exact ⟨_, u, rfl, rfl, h1, h2, h3⟩
  · rename_i xs t i off x b o val hx hm hr h1 h5
    simp only [elemCell, hx, Option.bind_some] at e
    exact ⟨_, val off, rfl, rfl, hs.cell (hm off c e), hr off c e, h1 off⟩
  · rename_i b esz o n t i off c' sz hn
    simp only [elemCell] at e
    split at e
    · obtain ⟨cs, hb, hc⟩ := Option.bind_eq_some_iff.1 e
      obtain ⟨u, h1, h2, h3, _⟩ := hs.ownCell hb hc hn
      exact ⟨_, u, rfl, rfl, h1, h2, h3⟩
    · cases e

theorem ldCells_rep {B : Nat → Prop} {σ : Sg} {A : AHeap} {w : World} (hs : Sim B σ A w) {p : AV} {v : Value} (h : Rep σ p v) :
    ∀ (n : Nat) (cs : List AV), ldCells A p n = some cs → ∃ us : List Value, us.length = n ∧ RepL σ cs us ∧ (∀ u ∈ us, u.oneCell' = true) ∧
      (n = 0 ∨ ∃ ad : Addr, v = .pointer (some ad) ∧ ad.spot = none ∧ ∀ (j : Nat) (u : Value), us[j]? = some u → w.cell? ⟨ad.block, ad.off + j, none⟩ = some u)
  | 0, cs, e => by
    simp [ldCells] at e
    subst e
    exact ⟨[], rfl, RepL.nil σ, by simp, .inl rfl⟩
  | n + 1, cs, e => by
    simp only [ldCells, Option.bind_eq_some_iff, Option.map_eq_some_iff] at e
    obtain ⟨cs', h1, q, h2, c, h3, rfl⟩ := e
    obtain ⟨us, hl, hr, h1c, hm⟩ := ldCells_rep hs h n cs' h1
    obtain ⟨ad, rfl, hsp, hq⟩ := addOff_rep h h2
    obtain ⟨ad', u, he, hsp', hc, hu, ho⟩ := ldCell_rep hs hq h3
    obtain rfl : (⟨ad.block, ad.off + n, none⟩ : Addr) = ad' := by injection he with he; injection he
    refine ⟨us ++ [u], by simp [hl], hr.append (RepL.cons hu (RepL.nil σ)), ?_, .inr ⟨ad, rfl, hsp, ?_⟩⟩
    · intro u' hu'
      rcases List.mem_append.1 hu' with h' | h'
      · exact h1c u' h'
      · simp at h'; subst h'; exact ho
    · intro j u' hj
      rcases Nat.lt_or_ge j us.length with hlt | hge
      · rw [List.getElem?_append_left hlt] at hj
        rcases hm with h0 | ⟨ad2, he2, _, hm⟩
        · omega
        · obtain rfl : ad = ad2 := by injection he2 with he2; injection he2
          exact hm j u' hj
      · rw [List.getElem?_append_right hge] at hj
        have : j = us.length := by
          rcases Nat.lt_or_ge (j - us.length) 1 with h' | h'
          · omega
          · rw [List.getElem?_eq_none (by simpa using h')] at hj; cases hj
        subst this
        simp at hj
        subst hj
        rw [hl]; exact hc

theorem addr_eta {ad : Addr} (h : ad.spot = none) : (⟨ad.block, ad.off, none⟩ : Addr) = ad := by cases ad; simp at h; subst h; rfl

theorem run_isAgg {P : Program} {t : TypeId} {g : Bool} (h : aggT P t = some g) (w : World) : (isAgg t).run P w = .ok g w := by
  unfold aggT at h
  obtain ⟨d, hd, rfl⟩ := Option.map_eq_some_iff.1 h
  unfold isAgg
  simp only [Sem.run_bind, run_underlying hd, Result.andThen_ok]
  cases d <;> rfl
theorem run_sizeOf {P : Program} {t : TypeId} {n : Nat} (h : szT P t = some n) (w : World) : (sizeOf t).run P w = .ok n w := by
  unfold szT at h
  obtain ⟨i, hi, rfl⟩ := Option.map_eq_some_iff.1 h
  simp [sizeOf, typeInfo, hi]

theorem ldVar_run {B : Nat → Prop} {P : Program} {σ : Sg} {A : AHeap} {w : World} (hs : Sim B σ A w) {p x : AV} {v : Value} (h : Rep σ p v) {t : TypeId} {n : Nat} {g : Bool} (hn : szT P t = some n) (hg : aggT P t = some g)
    (e : ldVar A p n g = some x) : ∃ u, (Instr.loadAt t v).run P w = .ok u w ∧ Rep σ x u ∧ (g = true ∨ u.oneCell' = true) := by
  unfold ldVar at e
  by_cases hgt : g = true
  · rw [if_pos hgt] at e
    subst hgt
    by_cases h0 : n = 0
    · simp [h0] at e
    · rw [if_neg h0] at e
      obtain ⟨cs, hcs, rfl⟩ := Option.map_eq_some_iff.1 e
      obtain ⟨us, hl, hr, h1, hm⟩ := ldCells_rep hs h _ _ hcs
      obtain ⟨ad, rfl, hsp, hc⟩ := hm.resolve_left h0
      have h2 := run_loadCells_list (P := P) (w := w) ad us (fun j u hj => by
        rw [← addr_eta hsp, add_plain]; exact hc j u hj)
      rw [hl] at h2
      exact ⟨_, by simp [Instr.loadAt, Instr.sureAddr, loadVar, run_isAgg hg, run_sizeOf hn, h2], .agg cs us hr.1 h1 hr.2, .inl rfl⟩
  · rw [if_neg hgt] at e
    simp at hgt
    subst hgt
    obtain ⟨ad, u, rfl, hsp, hc, hu, ho⟩ := ldCell_rep hs h e
    exact ⟨u, by simp [Instr.loadAt, Instr.sureAddr, loadVar, run_isAgg hg, load, Sem.run, hc], hu, .inr ho⟩

end Go.Proofs.YtllahdjejcideaaAi
