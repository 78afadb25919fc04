/- '==' of plain data. -/
import Derived.Test.YtllahdjejcideaaAiD
namespace Go.Proofs.YtllahdjejcideaaAi
open Go Go.RowKit
set_option linter.unusedVariables false
set_option linter.unusedSimpArgs false

theorem cellsEq_length : ∀ {ks : List Kd} {xs ys : List AV} {r : Bool}, cellsEq ks xs ys = some r → xs.length = ks.length ∧ ys.length = ks.length
  | [], [], [], _, _ => ⟨rfl, rfl⟩
  | k :: ks, a :: x, b :: y, r, h => by
    simp only [cellsEq, Option.bind_eq_some_iff, Option.map_eq_some_iff] at h
    obtain ⟨p, _, q, hq, _⟩ := h
    have := cellsEq_length hq
    simp [this.1, this.2]
  | [], [], b :: y, _, h => by simp [cellsEq] at h
  | [], a :: x, [], _, h => by simp [cellsEq] at h
  | [], a :: x, b :: y, _, h => by simp [cellsEq] at h
  | k :: ks, [], _, _, h => by simp [cellsEq] at h
  | k :: ks, a :: x, [], _, h => by simp [cellsEq] at h

theorem cellsEq_split : ∀ (n : Nat) (ks : List Kd) (xs ys : List AV) (r : Bool), cellsEq ks xs ys = some r →
    ∃ p q, cellsEq (ks.take n) (xs.take n) (ys.take n) = some p ∧ cellsEq (ks.drop n) (xs.drop n) (ys.drop n) = some q ∧ r = (p && q)
  | 0, ks, xs, ys, r, h => ⟨true, r, by simp [cellsEq], by simpa using h, by simp⟩
  | n + 1, [], [], [], r, h => ⟨true, r, by simp [cellsEq], by simpa using h, by simp⟩
  | n + 1, k :: ks, a :: x, b :: y, r, h => by
    simp only [cellsEq, Option.bind_eq_some_iff, Option.map_eq_some_iff] at h
    obtain ⟨c, hc, d, hd, rfl⟩ := h
    obtain ⟨p, q, hp, hq, rfl⟩ := cellsEq_split n ks x y d hd
    exact ⟨c && p, q, by simp [cellsEq, hc, hp], by simpa using hq, by simp [Bool.and_assoc]⟩
  | n + 1, [], [], b :: y, r, h => by simp [cellsEq] at h
  | n + 1, [], a :: x, [], r, h => by simp [cellsEq] at h
  | n + 1, [], a :: x, b :: y, r, h => by simp [cellsEq] at h
  | n + 1, k :: ks, [], _, r, h => by simp [cellsEq] at h
  | n + 1, k :: ks, a :: x, [], r, h => by simp [cellsEq] at h

/-- The value of a type out of its cells. -/
def mkVal (g : Bool) (us : List Value) : Value := if g then .agg us.toArray else us.getD 0 undef

theorem RepL.drop {σ : Sg} {xs : List AV} {us : List Value} (h : RepL σ xs us) (n : Nat) : RepL σ (xs.drop n) (us.drop n) :=
  ⟨by simp [h.1], fun i c v hc hv => h.2 (n + i) c v (by simpa using hc) (by simpa using hv)⟩
theorem RepL.take {σ : Sg} {xs : List AV} {us : List Value} (h : RepL σ xs us) (n : Nat) : RepL σ (xs.take n) (us.take n) :=
  ⟨by simp [h.1], fun i c v hc hv => by
    rw [List.getElem?_take] at hc hv
    by_cases hi : i < n
    · simp only [hi, if_true] at hc hv; exact h.2 i c v hc hv
    · simp [hi] at hc⟩

theorem run_part (P : Program) (w : World) (t : TypeId) (n : Nat) (g : Bool) (hn : szT P t = some n) (hg : aggT P t = some g) (us : List Value) (off : Nat) (hfit : off + n ≤ us.length) (h1 : g = false → n = 1) :
    (part t us.toArray off).run P w = .ok (mkVal g ((us.drop off).take n)) w := by
  unfold szT at hn
  unfold aggT at hg
  obtain ⟨i, hi, rfl⟩ := Option.map_eq_some_iff.1 hn
  obtain ⟨d, hd, rfl⟩ := Option.map_eq_some_iff.1 hg
  unfold part
  simp only [Sem.run_bind, isAgg, run_underlying hd, Result.andThen_ok]
  cases d with
  | struct fs =>
    simp only [Sem.run_pure, Result.andThen_ok, if_true, sizeOf, typeInfo, Sem.run_bind, run_program, hi, mkVal]
    congr 2
    apply Array.ext'
    simp [List.extract_eq_take_drop]
  | array a e =>
    simp only [Sem.run_pure, Result.andThen_ok, if_true, sizeOf, typeInfo, Sem.run_bind, run_program, hi, mkVal]
    congr 2
    apply Array.ext'
    simp [List.extract_eq_take_drop]
  | _ =>
    have hs := h1 rfl
    have hlt : off < us.length := by omega
    simp only [Sem.run_pure, Result.andThen_ok, Bool.false_eq_true, if_false, mkVal, hs]
    simp [hlt, List.getElem_take, List.getElem_drop]

theorem RepL.single {σ : Sg} {x : AV} {us : List Value} (h : RepL σ [x] us) : ∃ u, us = [u] ∧ Rep σ x u := by
  obtain ⟨v, us', rfl, h1, h2⟩ := h.head
  have := h2.1
  cases us' with
  | nil => exact ⟨v, rfl, h1⟩
  | cons _ _ => simp at this

/-- The fold over a struct's fields. -/
def kindsStep (P : Program) (d : Nat) (acc : List Kd) (f : Field) : Option (List Kd) :=
  if f.name ≠ "_" ∧ f.offset = acc.length then (kindsT P d f.type).bind fun ks => if szT P f.type = some ks.length then some (acc ++ ks) else none else none

theorem kindsT_leaf {P : Program} {d : Nat} {t : TypeId} {ks : List Kd} (h : kindsT P d t = some ks) (hg : aggT P t = some false) : ks.length = 1 := by
  cases d with
  | zero => simp [kindsT] at h
  | succ d =>
    unfold kindsT at h
    split at h
    · split at h <;> simp at h; subst h; rfl
    · split at h <;> simp at h; subst h; rfl
    · split at h <;> simp at h; subst h; rfl
    · rename_i fs hu; unfold aggT at hg; rw [hu] at hg; simp at hg
    · cases h
theorem kindsT_agg {P : Program} {d : Nat} {t : TypeId} {ks : List Kd} (h : kindsT P d t = some ks) : ∃ g, aggT P t = some g := by
  cases d with
  | zero => simp [kindsT] at h
  | succ d =>
    unfold kindsT at h
    unfold aggT
    split at h <;> first | (rename_i hu; exact ⟨_, by rw [hu]; rfl⟩) | (rename_i k hu; exact ⟨_, by rw [hu]; rfl⟩) | cases h

theorem eq_run {P : Program} {σ : Sg} : ∀ (d : Nat) (t : TypeId) (ks : List Kd) (xs ys : List AV) (us vs : List Value) (r g : Bool) (w : World),
    kindsT P d t = some ks → RepL σ xs us → RepL σ ys vs → cellsEq ks xs ys = some r → aggT P t = some g → ∀ D, d ≤ D → (Op.equalIn D t (mkVal g us) (mkVal g vs)).run P w = .ok r w := by
  intro d
  induction d with
  | zero => intro t ks xs ys us vs r g w h; simp [kindsT] at h
  | succ d ih =>
    intro t ks xs ys us vs r g w h hx hy he hg D hD
    obtain ⟨D, rfl⟩ : ∃ D', D = D' + 1 := ⟨D - 1, by omega⟩
    have leaf : ∀ k, ks = [k] → ∃ x y u v, xs = [x] ∧ ys = [y] ∧ us = [u] ∧ vs = [v] ∧ Rep σ x u ∧ Rep σ y v ∧ cellEq k x y = some r := by
      intro k hk
      subst hk
      have hl := cellsEq_length he
      obtain ⟨x, rfl⟩ := List.length_eq_one_iff.1 hl.1
      obtain ⟨y, rfl⟩ := List.length_eq_one_iff.1 hl.2
      obtain ⟨u, rfl, hu⟩ := hx.single
      obtain ⟨v, rfl, hv⟩ := hy.single
      simp [cellsEq] at he
      exact ⟨x, y, u, v, rfl, rfl, rfl, rfl, hu, hv, he⟩
    unfold kindsT at h
    split at h
    · rename_i hu
      split at h <;> simp at h
      obtain ⟨x, y, u, v, rfl, rfl, rfl, rfl, hxu, hyv, hc⟩ := leaf _ h.symm
      have : g = false := by unfold aggT at hg; rw [hu] at hg; simpa using hg.symm
      subst this
      cases x <;> cases y <;> simp [cellEq] at hc
      cases hxu; cases hyv
      subst hc
      simpa [mkVal] using run_equalIn_bool w D t _ _ hu
    · rename_i k hu
      split at h <;> simp at h
      obtain ⟨x, y, u, v, rfl, rfl, rfl, rfl, hxu, hyv, hc⟩ := leaf _ h.symm
      have : g = false := by unfold aggT at hg; rw [hu] at hg; simpa using hg.symm
      subst this
      cases x <;> cases y <;> simp [cellEq] at hc
      obtain ⟨⟨rfl, rfl⟩, rfl⟩ := hc
      cases hxu; cases hyv
      simpa [mkVal] using run_equalIn_int w D t _ _ _ _ hu
    · rename_i hu
      split at h <;> simp at h
      obtain ⟨x, y, u, v, rfl, rfl, rfl, rfl, hxu, hyv, hc⟩ := leaf _ h.symm
      have : g = false := by unfold aggT at hg; rw [hu] at hg; simpa using hg.symm
      subst this
      cases x <;> cases y <;> simp [cellEq] at hc
      cases hxu; cases hyv
      subst hc
      simp only [mkVal, Bool.false_eq_true, if_false, List.getD_eq_getElem?_getD, List.getElem?_cons_zero, Option.getD_some]
      rw [run_equalIn_string w D t _ _ hu, beq_toListBytes]
    · rename_i fs hu
      split at h
      · rename_i hheld
        have : g = true := by unfold aggT at hg; rw [hu] at hg; simpa using hg.symm
        subst this
        have hf : P.fieldsOf t = fs := by simp [Program.fieldsOf, hu]
        simp only [mkVal, if_true]
        rw [run_equalIn_struct (P := P) w D t us.toArray vs.toArray (by rw [hf]; exact hu) hheld, hf]
        have hl := cellsEq_length he
        have key : ∀ (l : List Field) (acc : List Kd) (r : Bool), l.foldlM (kindsStep P d) acc = some ks →
            cellsEq (ks.drop acc.length) (xs.drop acc.length) (ys.drop acc.length) = some r → (Op.eqFields D us.toArray vs.toArray l).run P w = .ok r w := by
          intro l
          induction l with
          | nil =>
            intro acc r hk hr
            simp at hk
            subst hk
            simp only [List.drop_length] at hr
            have e1 : xs.drop acc.length = [] := List.drop_eq_nil_of_le (by omega)
            have e2 : ys.drop acc.length = [] := List.drop_eq_nil_of_le (by omega)
            rw [e1, e2] at hr
            simp [cellsEq] at hr
            subst hr
            rfl
          | cons f l ihl =>
            intro acc r hk hr
            rw [List.foldlM_cons] at hk
            unfold kindsStep at hk
            by_cases hc : f.name ≠ "_" ∧ f.offset = acc.length
            · rw [if_pos hc] at hk
              cases hkf : kindsT P d f.type with
              | none => simp [hkf] at hk
              | some kf =>
                by_cases hz : szT P f.type = some kf.length
                · simp only [hkf, Option.bind_some, hz, if_true] at hk
                  replace hk : l.foldlM (kindsStep P d) (acc ++ kf) = some ks := hk
                  have hpre : ∀ (l : List Field) (a : List Kd), l.foldlM (kindsStep P d) a = some ks → ∃ q, ks = a ++ q := by
                    intro l
                    induction l with
                    | nil => intro a ha; simp at ha; exact ⟨[], by simp [ha]⟩
                    | cons f' l' ih' =>
                      intro a ha
                      rw [List.foldlM_cons] at ha
                      cases hs : kindsStep P d a f' with
                      | none => simp [hs] at ha
                      | some a' =>
                        simp [hs] at ha
                        obtain ⟨q, rfl⟩ := ih' a' ha
                        unfold kindsStep at hs
                        split at hs
                        · simp only [Option.bind_eq_some_iff] at hs
                          obtain ⟨k', _, hs⟩ := hs
                          split at hs
                          · simp at hs; exact ⟨k' ++ q, by rw [← hs, List.append_assoc]⟩
                          · cases hs
                        · cases hs
                  obtain ⟨q, hq⟩ := hpre l _ hk
                  obtain ⟨p1, q1, h1, h2, rfl⟩ := cellsEq_split kf.length _ _ _ _ hr
                  have hkt : (ks.drop acc.length).take kf.length = kf := by
                    rw [hq, List.append_assoc, List.drop_left, List.take_left]
                  rw [hkt] at h1
                  rw [List.drop_drop, List.drop_drop, List.drop_drop] at h2
                  have hrest := ihl (acc ++ kf) q1 hk (by rw [List.length_append]; exact h2)
                  obtain ⟨gf, hgf⟩ := kindsT_agg hkf
                  have hlen : acc.length + kf.length ≤ ks.length := by rw [hq]; simp
                  have hux : us.length = ks.length := by rw [← hx.1]; exact hl.1
                  have hvy : vs.length = ks.length := by rw [← hy.1]; exact hl.2
                  have hone : gf = false → kf.length = 1 := fun e => kindsT_leaf hkf (e ▸ hgf)
                  have ha := run_part P w f.type kf.length gf hz hgf us acc.length (by omega) hone
                  have hb := run_part P w f.type kf.length gf hz hgf vs acc.length (by omega) hone
                  have heq := ih f.type kf _ _ _ _ p1 gf w hkf ((hx.drop acc.length).take kf.length) ((hy.drop acc.length).take kf.length) h1 hgf D (by omega)
                  rw [Op.eqFields]
                  rw [if_pos hc.1, hc.2]
                  simp only [Sem.run_bind, ha, hb, heq, Result.andThen_ok]
                  cases p1
                  · simp
                  · simpa using hrest
                · simp [hkf, hz] at hk
            · rw [if_neg hc] at hk; simp at hk
        exact key fs.toList [] r h (by simpa using he)
      · cases h
    · cases h

end Go.Proofs.YtllahdjejcideaaAi
