/- Contracts, joined. -/
import Derived.Test.YtkgodhdpcomjbaaMdn4
section
/- Contracts: the density of a graph in a pattern; the law of DensityIn. -/
namespace Go.Proofs.YtkgodhdpcomjbaaAi
open Go Go.RowKit
set_option linter.unusedVariables false
set_option linter.unusedSimpArgs false
set_option maxRecDepth 20000

def fallF (n : Nat) : Nat → Int
  | 0 => 1
  | i + 1 => fallF n i * ((n : Int) - i)
theorem fallF_in : ∀ n, n ≤ 5 → ∀ i, i ≤ 5 → -1000 ≤ fallF n i ∧ fallF n i ≤ 1000 := by
  have : ∀ n, n < 6 → ∀ i, i < 6 → (-1000 ≤ fallF n i ∧ fallF n i ≤ 1000) := by decide
  exact fun n h i h' => this n (by omega) i (by omega)
theorem fallF_fact : ∀ n, n ≤ 5 → fallF n n = factN n := by
  have : ∀ n, n < 6 → fallF n n = factN n := by decide
  exact fun n h => this n (by omega)
theorem factN_in : ∀ n, n ≤ 5 → 1 ≤ factN n ∧ factN n ≤ 120 := by
  have : ∀ n, n < 6 → (1 ≤ factN n ∧ factN n ≤ 120) := by decide
  exact fun n h => this n (by omega)
noncomputable def sp_listsP : List AV → Option (AV) := pf (ι := (Nat) × (Nat)) (α := AV) (fun ⟨n, k⟩ => n ≤ 5 ∧ k ≤ 5) (fun ⟨n, k⟩ => [.int .i64 n, .int .i64 k]) (fun ⟨n, k⟩ => .int .i64 (fallF n k))
theorem sp_listsP_eq (n k : Nat) (h : n ≤ 5 ∧ k ≤ 5) : sp_listsP [.int .i64 n, .int .i64 k] = some (.int .i64 (fallF n k)) := by
  unfold sp_listsP
  exact pf_eq (ι := (Nat) × (Nat)) (α := AV) (n, k) h (by rintro ⟨n', k'⟩ _ e; simp_all [Int.natCast_inj])
theorem q_impl_lists : QP PP 157 sp_listsP := by
  refine QP_pf (fun i h => ?_) fun i h => ?_
  · obtain ⟨n, k⟩ := i; exact ⟨by first | rfl | simp, by first | rfl | simp⟩
  obtain ⟨n, k⟩ := i
  replace h : n ≤ 5 ∧ k ≤ 5 := h
  refine P_code Quiet.nil hmix k_impl_lists rfl ?_ ?_
  · first | rfl | simp
  show wpc 0 PP _ c_impl_lists (initSt [.int .i64 n, .int .i64 k] .nil) (endP r_impl_lists (.int .i64 (fallF n k)))
  obtain ⟨hn, hk⟩ := h
  simp -dsimp -implicitDefEqProofs [c_impl_lists, r_impl_lists]
  refine wpLoop_st (fun (i : Nat) => ⟨tl [(0, .int .i64 n), (5, .int .i64 (fallF n i)), (7, .int .i64 k), (8, .int .i64 i)], ⟨[]⟩⟩) (fun i => i ≤ k) (fun i => k - i) 0 (by omega) (Sub.keep (by simp) (by simp [hsub]) (by simp [fallF])) ?_
  intro i hi
  simp -dsimp -implicitDefEqProofs
  refine brW_of (fun h => ?_) (fun h => ?_) <;> simp only [decide_eq_true_eq, decide_eq_false_iff_not] at h
  · have hw := wrapNat (i := i) (by omega)
    have hb := fallF_in n hn (i + 1) (by omega)
    have w1 : IntKind.i64.wrap ((n : Int) - i) = (n : Int) - i := wrapI64 (by omega) (by omega)
    have w2 : IntKind.i64.wrap (fallF n i * ((n : Int) - i)) = fallF n (i + 1) := by
      rw [fallF] at hb ⊢
      exact wrapI64 (by omega) (by omega)
    simp -dsimp -implicitDefEqProofs [hw, w1, w2]
    exact .mk (i + 1) (by omega) (by omega) (Sub.keep (by simp) (by simp [hsub]) (by simp [hw]))
  · have : i = k := by omega
    subst this
    simp -dsimp -implicitDefEqProofs
def shQ (m : Nat) (he : Int) : Int := (factN m : Int).tdiv (selvesV m 0 he)
theorem permL_few : ∀ n, n ≤ 5 → (permL n n).length ≤ 120 := by
  have : ∀ n, n < 6 → (permL n n).length ≤ 120 := by decide +kernel
  exact fun n h => this n (by omega)
theorem selves_cnt {m e : Nat} (hm : m ≤ 5) (he : e < 2 ^ (m * (m - 1) / 2)) : selvesV m 0 e = cntN e m := by
  unfold selvesV
  have hfew := permL_few m hm
  rw [orders_perm, cntW_eq _ _ _ (by omega) (by omega)]
  have : (permL m m).filter (selfB e) = (permL m m).filter (fastB e m) := by
    apply List.filter_congr
    intro K hK
    have := (permL_dist hm (Nat.le_refl _) hK).2.1
    exact self_fast this he
  rw [this]
  simp [cntN]
theorem selves_div {m : Nat} {he : Int} (hg : graphOk m he = true) (h0 : 0 ≤ he) : ∃ c : Nat, selvesV m 0 he = c ∧ c ≠ 0 ∧ factN m % c = 0 ∧ c ≤ 120 ∧ m ≤ 5 := by
  obtain ⟨⟨_, m5⟩, hlt⟩ := graphOk_lt hg h0
  have m5 : m ≤ 5 := by omega
  obtain ⟨e, rfl⟩ := Int.eq_ofNat_of_zero_le h0
  simp only [Int.toNat_natCast] at hlt
  refine ⟨cntN e m, selves_cnt m5 hlt, cnt_pos hlt, ?_, ?_, m5⟩
  · have := cnt_dvd m5 hlt
    rw [permL_length m m5] at this
    exact Nat.mod_eq_zero_of_dvd this
  exact Nat.le_trans (List.length_filter_le _ _) (permL_few m m5)
theorem share_low {m : Nat} {he : Int} (hg : graphOk m he = true) (h0 : 0 ≤ he) : (in62 (fallF m m) ∧ in62 (selvesV m 0 he) ∧ selvesV m 0 he ≠ 0) ∧ lowP (fallF m m) (selvesV m 0 he) = shQ m he ∧ lowQ (fallF m m) (selvesV m 0 he) = 1 ∧ frIn (shQ m he) 1 := by
  obtain ⟨c, hc, c0, hd, c120, m5⟩ := selves_div hg h0
  have hf := factN_in m m5
  unfold shQ
  rw [hc, fallF_fact m m5]
  have hgcd : Int.gcd (factN m : Int) (c : Int) = c := by
    show Nat.gcd (factN m) c = c
    exact Nat.gcd_eq_right (Nat.dvd_of_mod_eq_zero hd)
  have hq : ((factN m : Int).tdiv c) = ((factN m / c : Nat) : Int) := by rw [Int.ofNat_tdiv]
  have hqle : factN m / c ≤ factN m := Nat.div_le_self _ _
  refine ⟨⟨by unfold in62; omega, by unfold in62; omega, by omega⟩, ?_, ?_, ?_⟩
  · unfold lowP
    rw [if_neg (by omega), hgcd]
  · unfold lowQ
    rw [if_neg (by omega), hgcd]
    exact Int.tdiv_self (by omega)
  · rw [hq]
    generalize factN m / c = f at *
    unfold frIn
    omega

def shV (n e l : Int) (ps : List Fr) (m : Nat) (he : Int) (g : Bool) : Fr × Bool := (valO (mul2 (chV n e l ps m he g).1 ⟨shQ m he, 1⟩), (chV n e l ps m he g).2 || (mul2 (chV n e l ps m he g).1 ⟨shQ m he, 1⟩).isNone)
def dnC (n e l : Int) (ps : List Fr) (m : Nat) (he : Int) : Prop := (((0 ≤ e ∧ e ≤ 4294967295) ∧ (0 ≤ l ∧ l ≤ 4294967295)) ∧ (m ≤ 5 ∧ 0 ≤ he ∧ he ≤ 4294967295) ∧ (1 ≤ n ∧ n ≤ 4) ∧ (ps.length : Int) = n ∧ allIn ps) ∧ graphOk m he = true
theorem chG_in {ps : List Fr} (h : allIn ps) : ∀ (AL : List (List Int)) (a : Fr) (g : Bool), frIn a.p a.q → frIn (chG ps a g AL).1.p (chG ps a g AL).1.q
  | [], a, g, ha => ha
  | L :: r, a, g, ha => by rw [chG]; exact chG_in h r _ _ (add2_in ha (prodG_in h L _ _ one_in))
noncomputable def sp_shareI : List (Option (List AV)) → List AV → Option (AV × List (Option (List AV))) := pv (pf (ι := (Int) × (Int) × (Int) × (List Fr) × (Nat) × (Int) × (Bool)) (α := AV × List (Option (List AV))) (fun ⟨n, e, l, ps, m, he, g⟩ => dnC n e l ps m he) (fun i => .agg (((fun ⟨n, e, l, ps, m, he, g⟩ => [some [.bool g], some [.int .i64 n, .int .u32 e, .int .u32 l, .sl (frsA ps) false]] : (Int) × (Int) × (Int) × (List Fr) × (Nat) × (Int) × (Bool) → List (Option (List AV))) i).map enO) :: (fun ⟨n, e, l, ps, m, he, g⟩ => [.ptr 0 0, .ptr 1 0, .agg [.int .i64 m, .int .u32 he]] : (Int) × (Int) × (Int) × (List Fr) × (Nat) × (Int) × (Bool) → List AV) i) (fun ⟨n, e, l, ps, m, he, g⟩ => (frA (shV n e l ps m he g).1, [some [.bool (shV n e l ps m he g).2], some [.int .i64 n, .int .u32 e, .int .u32 l, .sl (frsA ps) false]])))
theorem sp_shareI_eq (n e l : Int) (ps : List Fr) (m : Nat) (he : Int) (g : Bool) (h : dnC n e l ps m he) : sp_shareI [some [.bool g], some [.int .i64 n, .int .u32 e, .int .u32 l, .sl (frsA ps) false]] [.ptr 0 0, .ptr 1 0, .agg [.int .i64 m, .int .u32 he]] = some (frA (shV n e l ps m he g).1, [some [.bool (shV n e l ps m he g).2], some [.int .i64 n, .int .u32 e, .int .u32 l, .sl (frsA ps) false]]) := by
  unfold sp_shareI pv
  exact pf_eq (ι := (Int) × (Int) × (Int) × (List Fr) × (Nat) × (Int) × (Bool)) (α := AV × List (Option (List AV))) (n, e, l, ps, m, he, g) h (by rintro ⟨n', e', l', ps', m', he', g'⟩ _ e; simp_all [enO, Int.natCast_inj])
theorem v_impl_sums_share : QV PP 111 sp_shareI := by
  refine QV_pf fun i h => ?_
  obtain ⟨n, e, l, ps, m, he, g⟩ := i
  replace h : dnC n e l ps m he := h
  refine H_code (Quiet.q1 q_impl_lists (Quiet.q1 q_impl_Graph_selves (Quiet.q1 q_impl_lowest (Quiet.e1 v_impl_sums_chance.toE (Quiet.e1 m_impl_sums_mul.toE Quiet.nil))))) hmix k_impl_sums_share rfl (fun b => b) (by simp [AHeap.n]) (fun _ _ => rfl) (by rfl) (by first | rfl | simp) ?_
  show wpc _ PP _ c_impl_sums_share (initSt [.ptr 0 0, .ptr 1 0, .agg [.int .i64 m, .int .u32 he]] ⟨[some [.bool g], some [.int .i64 n, .int .u32 e, .int .u32 l, .sl (frsA ps) false]]⟩) (endH (fun b => b) r_impl_sums_share (frA (shV n e l ps m he g).1) [some [.bool (shV n e l ps m he g).2], some [.int .i64 n, .int .u32 e, .int .u32 l, .sl (frsA ps) false]])
  obtain ⟨hc, hg⟩ := h
  obtain ⟨h62, hlp, hlq, hfr⟩ := share_low hg hc.2.1.2.1
  have h1 := sp_chanceI_eq n e l ps m he g hc
  have h2 := sp_listsP_eq m m ⟨hc.2.1.1, hc.2.1.1⟩
  have h3 := sp_selves_eq m 0 he ⟨⟨hc.2.1.1, Nat.zero_le _⟩, hc.2.1.2⟩
  have h4 := sp_lowest_eq (fallF m m) (selvesV m 0 he) h62
  rw [hlp, hlq] at h4
  have hin : frIn (chV n e l ps m he g).1.p (chV n e l ps m he g).1.q := chG_in hc.2.2.2.2 _ _ _ zero_in
  have h5 := sp_mul_eq (chV n e l ps m he g).2 (chV n e l ps m he g).1.p (chV n e l ps m he g).1.q (shQ m he) 1 ⟨hin, hfr⟩
  unfold shV mul2
  generalize chV n e l ps m he g = C at h1 h5 ⊢
  have h30 : sp_selves [.agg [.int .i64 m, .int .u32 he], .int .i64 0] = some (.int .i64 (selvesV m 0 he)) := h3
  simp -dsimp -implicitDefEqProofs [c_impl_sums_share, r_impl_sums_share, h1, h2, h30, h4, h5, hsub, leL]
def densO (n e l : Int) (ps : List Fr) (m : Nat) (he : Int) : Option Fr := (chanceO n e l ps m he).bind fun c => mul2 c ⟨shQ m he, 1⟩
noncomputable def sp_densS : List (Option (List AV)) → List AV → Option (AV × List (Option (List AV))) := pv (pf (ι := (Int) × (Int) × (Int) × (List Fr) × (Nat) × (Int)) (α := AV × List (Option (List AV))) (fun ⟨n, e, l, ps, m, he⟩ => dnC n e l ps m he) (fun i => .agg (((fun ⟨n, e, l, ps, m, he⟩ => [some [.int .i64 n, .int .u32 e, .int .u32 l, .sl (frsA ps) false]] : (Int) × (Int) × (Int) × (List Fr) × (Nat) × (Int) → List (Option (List AV))) i).map enO) :: (fun ⟨n, e, l, ps, m, he⟩ => [.ptr 0 0, .agg [.int .i64 m, .int .u32 he]] : (Int) × (Int) × (Int) × (List Fr) × (Nat) × (Int) → List AV) i) (fun ⟨n, e, l, ps, m, he⟩ => (frO (densO n e l ps m he), [some [.int .i64 n, .int .u32 e, .int .u32 l, .sl (frsA ps) false]])))
theorem sp_densS_eq (n e l : Int) (ps : List Fr) (m : Nat) (he : Int) (h : dnC n e l ps m he) : sp_densS [some [.int .i64 n, .int .u32 e, .int .u32 l, .sl (frsA ps) false]] [.ptr 0 0, .agg [.int .i64 m, .int .u32 he]] = some (frO (densO n e l ps m he), [some [.int .i64 n, .int .u32 e, .int .u32 l, .sl (frsA ps) false]]) := by
  unfold sp_densS pv
  exact pf_eq (ι := (Int) × (Int) × (Int) × (List Fr) × (Nat) × (Int)) (α := AV × List (Option (List AV))) (n, e, l, ps, m, he) h (by rintro ⟨n', e', l', ps', m', he'⟩ _ e; simp_all [enO, Int.natCast_inj])
theorem chF_in {fit : List Int → Bool} {ps : List Fr} (h : allIn ps) : ∀ {AL : List (List Int)} {a v : Fr}, frIn a.p a.q → chF fit ps a AL = some v → frIn v.p v.q
  | [], a, v, ha, e => by rw [chF] at e; obtain rfl := Option.some.inj e; exact ha
  | L :: r, a, v, ha, e => by
    rw [chF] at e
    split at e
    · obtain ⟨w, hw, e⟩ := Option.bind_eq_some_iff.1 e
      obtain ⟨s, hs, e⟩ := Option.bind_eq_some_iff.1 e
      exact chF_in h (add2_some ha (prodO_in h one_in hw) hs) e
    · exact chF_in h ha e
theorem v_spec_l07Density : QV PP 110 sp_densS := by
  refine QV_pf fun i h => ?_
  obtain ⟨n, e, l, ps, m, he⟩ := i
  replace h : dnC n e l ps m he := h
  refine H_code (Quiet.q1 q_spec_CountSelf (Quiet.q1 q_spec_l02One (Quiet.q1 q_spec_l02Mul (Quiet.e1 v_spec_l07Chance.toE Quiet.nil)))) hmix k_spec_l07Density rfl (fun b => b) (by simp [AHeap.n]) (fun _ _ => rfl) (by rfl) (by first | rfl | simp) ?_
  show wpc _ PP _ c_spec_l07Density (initSt [.ptr 0 0, .agg [.int .i64 m, .int .u32 he]] ⟨[some [.int .i64 n, .int .u32 e, .int .u32 l, .sl (frsA ps) false]]⟩) (endH (fun b => b) r_spec_l07Density (frO (densO n e l ps m he)) [some [.int .i64 n, .int .u32 e, .int .u32 l, .sl (frsA ps) false]])
  obtain ⟨hc, hg⟩ := h
  obtain ⟨h62, _, _, hfr⟩ := share_low hg hc.2.1.2.1
  have h1 := sp_chanceS_eq n e l ps m he hc
  have h2 := sp_countS_eq m he ⟨hg, hc.2.1.2⟩
  unfold selfR at h2
  have hm5 := hc.2.1.1
  unfold densO
  cases hco : chanceO n e l ps m he with
  | none =>
    rw [hco] at h1
    simp -dsimp -implicitDefEqProofs [c_spec_l07Density, r_spec_l07Density, h1, frO, hsub]
  | some v =>
    rw [hco] at h1
    have hv : frIn v.p v.q := chF_in hc.2.2.2.2 zero_in hco
    have h3 := sp_l02Mul_eq v.p v.q (shQ m he) 1 ⟨hv, hfr⟩
    simp only [Option.bind_some, mul2]
    simp -dsimp -implicitDefEqProofs [c_spec_l07Density, r_spec_l07Density, h1, frO]
    refine wpLoop_st (fun (j : Nat) => ⟨tl [(3, .ptr 1 0), (4, .ptr 2 0), (6, .ptr 3 0), (8, .int .i64 (factN (j + 1))), (9, .int .i64 ((j : Int) + 2))], ⟨[some [.int .i64 n, .int .u32 e, .int .u32 l, .sl (frsA ps) false], some [.int .i64 m, .int .u32 he], some [.int .i64 0, .int .i64 0], some [.int .i64 v.p, .int .i64 v.q]]⟩⟩) (fun j => j + 1 ≤ max m 1) (fun j => max m 1 - j) 0 (by omega) (Sub.keep (by simp) (by simp [hsub]) (by simp [factN])) ?_
    intro j hj
    simp -dsimp -implicitDefEqProofs
    refine brW_of (fun h => ?_) (fun h => ?_) <;> simp only [decide_eq_true_eq, decide_eq_false_iff_not] at h
    · have hb := factN_in (j + 2) (by omega)
      have w1 : IntKind.i64.wrap ((factN (j + 1) : Int) * ((j : Int) + 2)) = factN (j + 2) := by
        have : ((factN (j + 1) : Int) * ((j : Int) + 2)) = ((factN (j + 1) * (j + 1 + 1) : Nat) : Int) := by rw [Int.natCast_mul]; congr 1
        rw [this]
        have : factN (j + 1) * (j + 1 + 1) = factN (j + 2) := rfl
        rw [this]
        exact wrapI64 (by omega) (by omega)
      have w2 : IntKind.i64.wrap ((j : Int) + 2 + 1) = (j : Int) + 1 + 2 := by rw [wrapI64 (by omega) (by omega)]; omega
      simp -dsimp -implicitDefEqProofs [w1, w2]
      exact .mk (j + 1) (by omega) (by omega) (Sub.keep (by simp) (by simp [hsub]) (by simp [w1, w2]))
    · have hfm : factN (j + 1) = factN m := by
        rcases Nat.eq_zero_or_pos m with rfl | hm0
        · have : j = 0 := by omega
          subst this; rfl
        · have : j + 1 = m := by omega
          rw [this]
      rw [hfm]
      have wq : IntKind.i64.wrap ((factN m : Int).tdiv (selvesV m 0 he)) = shQ m he := by
        unfold frIn at hfr
        exact wrapI64 (by unfold shQ at hfr; omega) (by unfold shQ at hfr; omega)
      have wq2 : IntKind.i64.wrap ((factN m : Int) / selvesV m 0 he) = shQ m he := by
        rw [← wq, Int.tdiv_eq_ediv_of_nonneg (by omega)]
      cases hmu : mulO v.p v.q (shQ m he) 1 with
      | none =>
        rw [hmu] at h3
        simp -dsimp -implicitDefEqProofs [h2, h62.2.2, wq, wq2, h3, frO, hsub]
      | some w =>
        rw [hmu] at h3
        simp -dsimp -implicitDefEqProofs [h2, h62.2.2, wq, wq2, h3, frO, hsub]
theorem told_sh (n e l : Int) (ps : List Fr) (m : Nat) (he : Int) : toldA (shV n e l ps m he false).2 (shV n e l ps m he false).1.p (shV n e l ps m he false).1.q = frO (densO n e l ps m he) := by
  obtain ⟨h1, h2⟩ := chF_G (fit := fun L => fitL true he e l L m) (ps := ps) (allL n.toNat m) ⟨0, 1⟩ false
  have h1 : ∀ v, chanceO n e l ps m he = some v → chV n e l ps m he false = (v, false) := h1
  have h2 : chanceO n e l ps m he = none → (chV n e l ps m he false).2 = true := h2
  unfold shV densO
  cases hc : chanceO n e l ps m he with
  | none => rw [toldA, h2 hc]; rfl
  | some v =>
    rw [h1 v hc]
    simp only [Option.bind_some, Bool.false_or]
    cases hmu : mul2 v ⟨shQ m he, 1⟩ with
    | none => rfl
    | some w => rfl
def densR (n e l : Int) (ps : List Fr) (hn he : Int) : AV := if patOk n e l ps = true ∧ graphOk hn he = true then frO (densO n e l ps hn.toNat he) else noFr 1
@[simp] theorem densR_lt (n e l : Int) (ps : List Fr) (hn he : Int) (k : Nat) : (densR n e l ps hn he).lt k = true := by unfold densR; split; exact frO_lt _ _; rfl
noncomputable def sp_densP : List AV → Option (AV) := pf (ι := (Int) × (Int) × (Int) × (List Fr) × (Int) × (Int)) (α := AV) (fun ⟨n, e, l, ps, hn, he⟩ => ((0 ≤ e ∧ e ≤ 4294967295) ∧ (0 ≤ l ∧ l ≤ 4294967295) ∧ ps.length ≤ maxLen) ∧ (0 ≤ he ∧ he ≤ 4294967295)) (fun ⟨n, e, l, ps, hn, he⟩ => [.agg [.int .i64 n, .int .u32 e, .int .u32 l, .sl (frsA ps) false], .agg [.int .i64 hn, .int .u32 he]]) (fun ⟨n, e, l, ps, hn, he⟩ => densR n e l ps hn he)
theorem sp_densP_eq (n e l : Int) (ps : List Fr) (hn he : Int) (h : ((0 ≤ e ∧ e ≤ 4294967295) ∧ (0 ≤ l ∧ l ≤ 4294967295) ∧ ps.length ≤ maxLen) ∧ (0 ≤ he ∧ he ≤ 4294967295)) : sp_densP [.agg [.int .i64 n, .int .u32 e, .int .u32 l, .sl (frsA ps) false], .agg [.int .i64 hn, .int .u32 he]] = some (densR n e l ps hn he) := by
  unfold sp_densP
  exact pf_eq (ι := (Int) × (Int) × (Int) × (List Fr) × (Int) × (Int)) (α := AV) (n, e, l, ps, hn, he) h (by rintro ⟨n', e', l', ps', hn', he'⟩ _ e; simp_all [Int.natCast_inj])
theorem q_spec_DensityIn : QP PP 44 sp_densP := by
  refine QP_pf (fun i h => ?_) fun i h => ?_
  · obtain ⟨n, e, l, ps, hn, he⟩ := i; exact ⟨by first | rfl | simp, by first | rfl | simp⟩
  obtain ⟨n, e, l, ps, hn, he⟩ := i
  replace h : ((0 ≤ e ∧ e ≤ 4294967295) ∧ (0 ≤ l ∧ l ≤ 4294967295) ∧ ps.length ≤ maxLen) ∧ (0 ≤ he ∧ he ≤ 4294967295) := h
  refine P_code (Quiet.q1 q_spec_l01Ok (Quiet.e1 m_spec_l07Ok.toE (Quiet.e1 v_spec_l07Density.toE Quiet.nil))) hmix k_spec_DensityIn rfl ?_ ?_
  · first | rfl | simp
  show wpc 0 PP _ c_spec_DensityIn (initSt [.agg [.int .i64 n, .int .u32 e, .int .u32 l, .sl (frsA ps) false], .agg [.int .i64 hn, .int .u32 he]] .nil) (endP r_spec_DensityIn (densR n e l ps hn he))
  obtain ⟨hp, hhe⟩ := h
  unfold densR
  have h1 := sp_l07Ok_eq n e l ps hp
  have h2 := sp_graphOk_eq hn he hhe
  cases hpo : patOk n e l ps with
  | false => simp -dsimp -implicitDefEqProofs [c_spec_DensityIn, r_spec_DensityIn, h1, h2, hpo, noFr]
  | true =>
    cases hg : graphOk hn he with
    | false => simp -dsimp -implicitDefEqProofs [c_spec_DensityIn, r_spec_DensityIn, h1, h2, hpo, hg, noFr]
    | true =>
      obtain ⟨_, hn4, _, hlen, hall⟩ := patOk_spec hpo
      obtain ⟨⟨m0, m5⟩, _⟩ := graphOk_lt hg hhe.1
      obtain ⟨m, rfl⟩ := Int.eq_ofNat_of_zero_le m0
      have h3 := sp_densS_eq n e l ps m he ⟨⟨⟨hp.1, hp.2.1⟩, ⟨by omega, hhe⟩, hn4, hlen, allOk_in hall⟩, hg⟩
      cases hc : densO n e l ps m he with
      | none => rw [hc] at h3; simp -dsimp -implicitDefEqProofs [c_spec_DensityIn, r_spec_DensityIn, h1, h2, hpo, hg, h3, hc, frO]
      | some v => rw [hc] at h3; simp -dsimp -implicitDefEqProofs [c_spec_DensityIn, r_spec_DensityIn, h1, h2, hpo, hg, h3, hc, frO]
theorem q_impl_DensityIn : QP PP 45 sp_densP := by
  refine QP_pf (fun i h => ?_) fun i h => ?_
  · obtain ⟨n, e, l, ps, hn, he⟩ := i; exact ⟨by first | rfl | simp, by first | rfl | simp⟩
  obtain ⟨n, e, l, ps, hn, he⟩ := i
  replace h : ((0 ≤ e ∧ e ≤ 4294967295) ∧ (0 ≤ l ∧ l ≤ 4294967295) ∧ ps.length ≤ maxLen) ∧ (0 ≤ he ∧ he ≤ 4294967295) := h
  refine P_code (Quiet.q1 q_impl_ValidPattern (Quiet.q1 q_impl_badGraph (Quiet.e1 v_impl_sums_share.toE (Quiet.e1 m_impl_sums_told.toE Quiet.nil)))) hmix k_impl_DensityIn rfl ?_ ?_
  · first | rfl | simp
  show wpc 0 PP _ c_impl_DensityIn (initSt [.agg [.int .i64 n, .int .u32 e, .int .u32 l, .sl (frsA ps) false], .agg [.int .i64 hn, .int .u32 he]] .nil) (endP r_impl_DensityIn (densR n e l ps hn he))
  obtain ⟨hp, hhe⟩ := h
  unfold densR
  have h1 := sp_patOk_eq n e l ps hp
  have h2 := sp_badGraph_eq hn he hhe
  cases hpo : patOk n e l ps with
  | false => simp -dsimp -implicitDefEqProofs [c_impl_DensityIn, r_impl_DensityIn, h1, h2, hpo, noFr]
  | true =>
    cases hg : graphOk hn he with
    | false => simp -dsimp -implicitDefEqProofs [c_impl_DensityIn, r_impl_DensityIn, h1, h2, hpo, hg, noFr]
    | true =>
      obtain ⟨_, hn4, _, hlen, hall⟩ := patOk_spec hpo
      obtain ⟨⟨m0, m5⟩, _⟩ := graphOk_lt hg hhe.1
      obtain ⟨m, rfl⟩ := Int.eq_ofNat_of_zero_le m0
      have h3 := sp_shareI_eq n e l ps m he false ⟨⟨⟨hp.1, hp.2.1⟩, ⟨by omega, hhe⟩, hn4, hlen, allOk_in hall⟩, hg⟩
      have h4 := told_sh n e l ps m he
      rw [Int.toNat_natCast, ← h4]
      generalize shV n e l ps m he false = C at h3 h4 ⊢
      obtain ⟨⟨cp, cq⟩, cg⟩ := C
      simp only at h3
      cases cg <;> simp -dsimp -implicitDefEqProofs [c_impl_DensityIn, r_impl_DensityIn, h1, h2, hpo, hg, h3, toldA]

set_option maxHeartbeats 2000000 in
theorem law_densityIn (xs : List AV) (h : WtA [tyPattern, tyGraph] xs) : T PP 10 xs .nil fun r _ => r = .bool true := by
  simp only [WtA_cons, WtA_nil] at h
  obtain ⟨x, _, rfl, hx, y, _, rfl, hy, rfl⟩ := h
  obtain ⟨n, e, l, ps, rfl, h⟩ := wt_pattern hx
  simp only [tyGraph, WtV_st, WtL_int, WtL_nil] at hy
  obtain ⟨_, rfl, hn, _, rfl, _, he, _, rfl, hhe, rfl⟩ := hy
  have hhe : 0 ≤ he ∧ he ≤ 4294967295 := ⟨by simpa [IntKind.min, IntKind.signed] using hhe.1, by simpa [IntKind.max, IntKind.signed, IntKind.bits] using hhe.2⟩
  refine (P_code (r := .bool true) (Quiet.q1 q_laws_szPattern (Quiet.q1 q_laws_toGraph (Quiet.q1 q_laws_eqFraction (Quiet.e1 q_spec_DensityIn.toR (Quiet.e1 n_laws_toPattern.toE (Quiet.e1 q_impl_DensityIn.toR (Quiet.e1 q_laws_eqPattern.toR Quiet.nil))))))) hmix k_laws_FnExactDensityIn rfl rfl ?_).mono fun r A' h => h.1
  by_cases c : (ps.length : Int) ≤ 1048576
  · have c2 : ¬ ((1048576 : Int) - ps.length < 0) := by omega
    have hT := sp_toPatN_eq n e l ps (by omega)
    have hq := eqPat_refl n e l ps h.2.2
    have hB := sp_densP_eq n e l ps hn he ⟨⟨h.1, h.2.1, h.2.2⟩, hhe⟩
    have hR : ∃ p q c, densR n e l ps hn he = .tup [.agg [.int .i64 p, .int .i64 q], .int .i64 c] := by
      unfold densR noFr
      split
      · cases densO n e l ps hn.toNat he with
        | none => exact ⟨_, _, _, rfl⟩
        | some v => exact ⟨_, _, _, rfl⟩
      · exact ⟨_, _, _, rfl⟩
    obtain ⟨p, q, cd, hR⟩ := hR
    rw [hR] at hB
    simp -dsimp -implicitDefEqProofs [c_laws_FnExactDensityIn, r_laws_FnExactDensityIn, sp_szPattern_eq n e l ps 1048576 ⟨by omega, by omega, h.2.2⟩, c, c2, hT, hq, hB]
  · simp -dsimp -implicitDefEqProofs [c_laws_FnExactDensityIn, r_laws_FnExactDensityIn, sp_szPattern_eq n e l ps 1048576 ⟨by omega, by omega, h.2.2⟩, c]
end Go.Proofs.YtkgodhdpcomjbaaAi
end
