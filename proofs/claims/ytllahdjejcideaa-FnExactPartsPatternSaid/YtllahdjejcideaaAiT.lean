/- Conditions of code are sound; the triple of a function. -/
import Derived.Test.YtllahdjejcideaaAiQ
import Derived.Test.YtllahdjejcideaaAiS
namespace Go.Proofs.YtllahdjejcideaaAi
open Go Go.RowKit
set_option linter.unusedVariables false
set_option linter.unusedSimpArgs false

variable {P : Program} {S : Spec} {N : Nat}

def exOf : Ex → Exit
  | .normal => .normal
  | .exit id => .exit id
  | .ret => .ret

def dAll (n : Nat) : AC → Bool
  | .reg ops => ops.all (dOk n)
  | .draw ops => ops.all fun o => dOk n o.1
  | .seq a b => dAll n a && dAll n b
  | .cond _ x y => dAll n x && dAll n y
  | .block _ c => dAll n c
  | .loop c => dAll n c
  | _ => true

theorem pre_sound {h : Hint} {c : AC} {s : St} {QA : Ex → St → Prop} (hw : wpc N P S (preA h c) s QA) : ∃ s', Shift N s s' ∧ wpc N P S c s' QA := by
  unfold preA at hw
  split at hw
  · simp only [wpc, shiftW] at hw
    exact hw
  · exact ⟨s, fun B w0 n σ a w hs => ⟨σ, .refl N σ, hs⟩, hw⟩

theorem SimSt.tick {B : Nat → Prop} {n : Nat} {w0 : World} {σ : Sg} {s : St} {a : Act} {w : World} (h : SimSt B w0 n σ s a w) : SimSt B w0 n σ s a { w with drawn := w.drawn + 1 } :=
  ⟨h.sim.drew, h.tmps, h.size, h.defers, h.below.trans ⟨rfl, rfl, rfl, Nat.le_refl _, fun i hi => rfl⟩⟩

theorem least_of {G : Nat → Prop} (h : ∃ m, G m) : ∃ m, G m ∧ ∀ k, G k → m ≤ k := by
  obtain ⟨m, hm⟩ := h
  induction m using Nat.strongRecOn with
  | _ m ih =>
    by_cases hlt : ∃ k, k < m ∧ G k
    · obtain ⟨k, hk, hg⟩ := hlt
      exact ih k hk hg
    · exact ⟨m, hm, fun k hk => Nat.le_of_not_lt fun h => hlt ⟨k, h, hk⟩⟩

theorem wpc_sound (hS : Quiet P S) (hm : P.follows .mixedOrders = true) {q : FuncId → Nat} {B : Nat → Prop} {n : Nat} {w0 : World} {σ0 : Sg} : ∀ (c : Code) (ac : AC), ccCode P c = some ac → dAll n ac = true → ∀ (hs : List Hint) (QA : Ex → St → Prop) (Q : Exit → Act → World → Prop),
    (∀ σ' e s' a' w', σ0.LeN N σ' → QA e s' → SimSt B w0 n σ' s' a' w' → Q (exOf e) a' w') → ∀ (σ : Sg) (s : St) (a : Act) (w : World), σ0.LeN N σ → SimSt B w0 n σ s a w → wpc N P S (lin q ac hs).1 s QA → c.wp P Q a w := by
  intro c
  induction c with
  | skip =>
    intro ac hc hd hs QA Q hQ σ s a w hle hsim hw
    obtain rfl := Option.some.inj hc
    simp only [lin, wpc] at hw
    exact wp_skip (hQ _ .normal _ _ _ hle hw hsim)
  | exit id =>
    intro ac hc hd hs QA Q hQ σ s a w hle hsim hw
    obtain rfl := Option.some.inj hc
    simp only [lin, wpc] at hw
    exact wp_exit (hQ _ (.exit id) _ _ _ hle hw hsim)
  | ret =>
    intro ac hc hd hs QA Q hQ σ s a w hle hsim hw
    obtain rfl := Option.some.inj hc
    simp only [lin] at hw
    obtain ⟨s', hsh, hw⟩ := pre_sound hw
    obtain ⟨σ', hle', hsim'⟩ := hsh _ _ _ _ _ _ hsim
    simp only [wpc] at hw
    exact wp_ret (hQ _ .ret _ _ _ (hle.trans hle') hw hsim')
  | region id ops draw =>
    intro ac hc hd hs QA Q hQ σ s a w hle hsim hw
    cases draw with
    | false =>
      simp only [ccCode, Option.map_eq_some_iff] at hc
      obtain ⟨aops, hc, rfl⟩ := hc
      simp only [lin] at hw
      obtain ⟨s', hsh, hw⟩ := pre_sound hw
      obtain ⟨σ', hle', hsim'⟩ := hsh _ _ _ _ _ _ hsim
      simp only [wpc] at hw
      refine wp_region ?_
      rw [List.range_eq_range']
      exact wps_sound (q := q) hS hc (List.all_eq_true.1 hd) (σ0 := σ') (fun σ2 s' a' w' hl hk hs' => hQ σ2 .normal s' a' w' ((hle.trans hle').trans (hl.toN N)) hk hs') ops.size 0 (by simp) σ' s' a w (.refl σ') hsim' (by simpa using hw)
    | true =>
      simp only [ccCode, Option.map_eq_some_iff] at hc
      obtain ⟨aops, hc, rfl⟩ := hc
      simp only [lin] at hw
      obtain ⟨s', hsh, hw⟩ := pre_sound hw
      obtain ⟨σ', hle', hsim'⟩ := hsh _ _ _ _ _ _ hsim
      have hlen : aops.length = ops.size := by simpa using (mapM_some_length _ _ _ hc).1
      refine wp_region_any hm ?_
      refine wpall_sound (q := q) (cks := (popH hs).1.cks) hS hc (List.all_eq_true.1 hd) (σ0 := σ') (K := QA .normal) (fun σ2 s' a' w' hl hk hs' => hQ σ2 .normal s' a' w' ((hle.trans hle').trans (hl.toN N)) hk hs') ops.size [] _ (by simp) (fun i => ?_) σ' s' a _ (.refl σ') hsim'.tick ?_
      · simp
        by_cases hi : i < ops.size <;> simp [hi]
      · split at hw
        · split at hw
          · rename_i order _ hok
            simp only [Bool.and_eq_true, beq_iff_eq] at hok
            simp only [wpc] at hw
            exact lin_sound hok.2.1 order ops.size [] s' (by rw [hok.2.2, hlen]; exact Nat.le_refl _) (fun k hk => by cases hk) hok.1 hw
          · simp only [wpc] at hw
        · have hdl : (drawn q (popH hs).1.cks aops).length = aops.length := by simp [drawn]
          simp only [wpc, hdl, hlen] at hw
          exact hw
  | seq x y ihx ihy =>
    intro ac hc hd hs QA Q hQ σ s a w hle hsim hw
    simp only [ccCode, Option.bind_eq_some_iff, Option.map_eq_some_iff] at hc
    obtain ⟨ax, hx, ay, hy, rfl⟩ := hc
    simp only [dAll, Bool.and_eq_true] at hd
    simp only [lin, wpc] at hw
    refine wp_seq (ihx ax hx hd.1 hs _ _ ?_ σ s a w hle hsim hw)
    intro σ' e s' a' w' hl hk hs'
    cases e with
    | normal => exact ihy ay hy hd.2 _ QA Q hQ σ' s' a' w' hl hs' hk
    | exit id => exact hQ σ' (.exit id) s' a' w' hl hk hs'
    | ret => exact hQ σ' .ret s' a' w' hl hk hs'
  | cond b x y ihx ihy =>
    intro ac hc hd hs QA Q hQ σ s a w hle hsim hw
    simp only [ccCode, Option.bind_eq_some_iff, Option.map_eq_some_iff] at hc
    obtain ⟨b', hb, ax, hx, ay, hy, rfl⟩ := hc
    simp only [dAll, Bool.and_eq_true] at hd
    simp only [lin, wpc] at hw
    have hr := ev_rep hsim hb
    replace hw := optW_iff.1 hw
    obtain ⟨t, ht0, hw⟩ := hw
    cases hv : s.ev b' <;> simp only [hv, boolOf] at ht0 <;> first | (cases ht0; done) | skip
    obtain rfl := Option.some.inj ht0
    rename_i t
    rw [hv] at hr
    have hev : a.eval b = .bool t := by generalize a.eval b = v at hr; cases hr; rfl
    refine wp_cond_split hev (fun ht => ?_) (fun ht => ?_)
    · subst ht
      exact ihx ax hx hd.1 hs QA Q hQ σ s a w hle hsim (by rw [brW_true] at hw; exact hw)
    · subst ht
      exact ihy ay hy hd.2 _ QA Q hQ σ s a w hle hsim (by rw [brW_false] at hw; exact hw)
  | block id x ih =>
    intro ac hc hd hs QA Q hQ σ s a w hle hsim hw
    simp only [ccCode, Option.map_eq_some_iff] at hc
    obtain ⟨ax, hx, rfl⟩ := hc
    simp only [lin, wpc] at hw
    refine wp_block (ih ax hx hd hs _ _ ?_ σ s a w hle hsim hw)
    intro σ' e s' a' w' hl hk hs'
    cases e with
    | normal => exact hQ σ' .normal s' a' w' hl hk hs'
    | ret => exact hQ σ' .ret s' a' w' hl hk hs'
    | exit i =>
      simp only [exOf, Exit.inBlock]
      by_cases hi : i = id
      · rw [if_pos hi]
        have hk : QA .normal s' := by simpa [hi] using hk
        exact hQ σ' .normal s' a' w' hl hk hs'
      · rw [if_neg hi]
        have hk : QA (.exit i) s' := by simpa [hi] using hk
        exact hQ σ' (.exit i) s' a' w' hl hk hs'
  | loop x ih =>
    intro ac hc hd hs QA Q hQ σ s a w hle hsim hw
    simp only [ccCode, Option.map_eq_some_iff] at hc
    obtain ⟨ax, hx, rfl⟩ := hc
    simp only [lin] at hw
    obtain ⟨s', hsh, hw⟩ := pre_sound hw
    obtain ⟨σ', hle', hsim'⟩ := hsh _ _ _ _ _ _ hsim
    simp only [wpc, wpLoop] at hw
    obtain ⟨I, μ, ⟨s0, hsh0, h0⟩, hround⟩ := hw
    obtain ⟨σ1', hle1', hsim1'⟩ := hsh0 _ _ _ _ _ _ hsim'
    classical
    let G : Act → World → Nat → Prop := fun a w m => ∃ σ' s', σ0.LeN N σ' ∧ SimSt B w0 n σ' s' a w ∧ I s' ∧ μ s' = m
    let J : Act → World → Prop := fun a w => ∃ m, G a w m
    let least : Act → World → Nat := fun a w => if h : ∃ m, G a w m then Classical.choose (least_of h) else 0
    refine wp_loop J least ⟨_, σ1', s0, (hle.trans hle').trans hle1', hsim1', h0, rfl⟩ fun a w hJ => ?_
    have hl : least a w = Classical.choose (least_of hJ) := by simp only [least]; rw [dif_pos hJ]
    obtain ⟨⟨σ1, s1, hle1, hs1, hI1, hμ1⟩, _⟩ := Classical.choose_spec (least_of hJ)
    refine ih ax hx hd _ _ _ ?_ σ1 s1 a w hle1 hs1 (hround s1 hI1)
    intro σ' e s' a' w' hl' hk hs'
    cases e with
    | normal =>
      obtain ⟨s2, hsh2, hI2, hμ2⟩ := hk
      obtain ⟨σ2, hle2, hsim2⟩ := hsh2 _ _ _ _ _ _ hs'
      have hJ' : ∃ m, G a' w' m := ⟨_, σ2, s2, hl'.trans hle2, hsim2, hI2, rfl⟩
      refine ⟨hJ', ?_⟩
      have h2 : least a' w' = Classical.choose (least_of hJ') := by simp only [least]; rw [dif_pos hJ']
      rw [h2, hl]
      have h3 := (Classical.choose_spec (least_of hJ')).2 (μ s2) ⟨σ2, s2, hl'.trans hle2, hsim2, hI2, rfl⟩
      omega
    | exit id => exact hQ σ' (.exit id) s' a' w' hl' hk hs'
    | ret => exact hQ σ' .ret s' a' w' hl' hk hs'
  | _ =>
    intro ac hc hd hs QA Q hQ σ s a w hle hsim hw
    simp only [ccCode, Option.some.injEq] at hc
    subst hc
    simp only [lin, wpc] at hw

end Go.Proofs.YtllahdjejcideaaAi
