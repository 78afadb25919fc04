/- Contracts, joined. -/
import Derived.Test.YtkgodhdpcomjbaaMds4
import Derived.Test.YtkgodhdpcomjbaaAiX
import Derived.Test.YtkgodhdpcomjbaaProg
section
/- Contracts: the density of a graph in a pattern; the law of DensityIn. -/
namespace Go.Proofs.YtkgodhdpcomjbaaAi
open Go Go.RowKit
set_option linter.unusedVariables false
set_option linter.unusedSimpArgs false
set_option maxRecDepth 20000

def fallF (n : Nat) : Nat → Int
  | 0 => 1
  | i + 1 => fallF n i * ((n : Int) - i)
theorem fallF_in : ∀ n, n ≤ 5 → ∀ i, i ≤ 5 → -1000 ≤ fallF n i ∧ fallF n i ≤ 1000 := by
  have : ∀ n, n < 6 → ∀ i, i < 6 → (-1000 ≤ fallF n i ∧ fallF n i ≤ 1000) := by decide
  exact fun n h i h' => this n (by omega) i (by omega)
theorem fallF_fact : ∀ n, n ≤ 5 → fallF n n = factN n := by
  have : ∀ n, n < 6 → fallF n n = factN n := by decide
  exact fun n h => this n (by omega)
theorem factN_in : ∀ n, n ≤ 5 → 1 ≤ factN n ∧ factN n ≤ 120 := by
  have : ∀ n, n < 6 → (1 ≤ factN n ∧ factN n ≤ 120) := by decide
  exact fun n h => this n (by omega)
noncomputable def sp_listsP : List AV → Option (AV) := pf (ι := (Nat) × (Nat)) (α := AV) (fun ⟨n, k⟩ => n ≤ 5 ∧ k ≤ 5) (fun ⟨n, k⟩ => [.int .i64 n, .int .i64 k]) (fun ⟨n, k⟩ => .int .i64 (fallF n k))
theorem sp_listsP_eq (n k : Nat) (h : n ≤ 5 ∧ k ≤ 5) : sp_listsP [.int .i64 n, .int .i64 k] = some (.int .i64 (fallF n k)) := by
  unfold sp_listsP
  exact pf_eq (ι := (Nat) × (Nat)) (α := AV) (n, k) h (by rintro ⟨n', k'⟩ _ e; simp_all [Int.natCast_inj])
theorem q_impl_lists : QP PP 157 sp_listsP := by
  refine QP_pf (fun i h => ?_) fun i h => ?_
  · obtain ⟨n, k⟩ := i; exact ⟨by first | rfl | simp, by first | rfl | simp⟩
  obtain ⟨n, k⟩ := i
  replace h : n ≤ 5 ∧ k ≤ 5 := h
  refine P_code Quiet.nil hmix k_impl_lists rfl ?_ ?_
  · first | rfl | simp
  show wpc 0 PP _ c_impl_lists (initSt [.int .i64 n, .int .i64 k] .nil) (endP r_impl_lists (.int .i64 (fallF n k)))
  obtain ⟨hn, hk⟩ := h
  simp -dsimp -implicitDefEqProofs [c_impl_lists, r_impl_lists]
  refine wpLoop_st (fun (i : Nat) => ⟨tl [(0, .int .i64 n), (5, .int .i64 (fallF n i)), (7, .int .i64 k), (8, .int .i64 i)], ⟨[]⟩⟩) (fun i => i ≤ k) (fun i => k - i) 0 (by omega) (Sub.keep (by simp) (by simp [hsub]) (by simp [fallF])) ?_
  intro i hi
  simp -dsimp -implicitDefEqProofs
  refine brW_of (fun h => ?_) (fun h => ?_) <;> simp only [decide_eq_true_eq, decide_eq_false_iff_not] at h
  · have hw := wrapNat (i := i) (by omega)
    have hb := fallF_in n hn (i + 1) (by omega)
    have w1 : IntKind.i64.wrap ((n : Int) - i) = (n : Int) - i := wrapI64 (by omega) (by omega)
    have w2 : IntKind.i64.wrap (fallF n i * ((n : Int) - i)) = fallF n (i + 1) := by
      rw [fallF] at hb ⊢
      exact wrapI64 (by omega) (by omega)
    simp -dsimp -implicitDefEqProofs [hw, w1, w2]
    exact .mk (i + 1) (by omega) (by omega) (Sub.keep (by simp) (by simp [hsub]) (by simp [hw]))
  · have : i = k := by omega
    subst this
    simp -dsimp -implicitDefEqProofs
def shQ (m : Nat) (he : Int) : Int := (factN m : Int).tdiv (selvesV m 0 he)
theorem permL_few : ∀ n, n ≤ 5 → (permL n n).length ≤ 120 := by
  have : ∀ n, n < 6 → (permL n n).length ≤ 120 := by decide +kernel
  exact fun n h => this n (by omega)
theorem selves_cnt {m e : Nat} (hm : m ≤ 5) (he : e < 2 ^ (m * (m - 1) / 2)) : selvesV m 0 e = cntN e m := by
  unfold selvesV
  have hfew := permL_few m hm
  rw [orders_perm, cntW_eq _ _ _ (by omega) (by omega)]
  have : (permL m m).filter (selfB e) = (permL m m).filter (fastB e m) := by
    apply List.filter_congr
    intro K hK
    have := (permL_dist hm (Nat.le_refl _) hK).2.1
    exact self_fast this he
  rw [this]
  simp [cntN]
theorem selves_div {m : Nat} {he : Int} (hg : graphOk m he = true) (h0 : 0 ≤ he) : ∃ c : Nat, selvesV m 0 he = c ∧ c ≠ 0 ∧ factN m % c = 0 ∧ c ≤ 120 ∧ m ≤ 5 := by
  obtain ⟨⟨_, m5⟩, hlt⟩ := graphOk_lt hg h0
  have m5 : m ≤ 5 := by omega
  obtain ⟨e, rfl⟩ := Int.eq_ofNat_of_zero_le h0
  simp only [Int.toNat_natCast] at hlt
  refine ⟨cntN e m, selves_cnt m5 hlt, cnt_pos hlt, ?_, ?_, m5⟩
  · have := cnt_dvd m5 hlt
    rw [permL_length m m5] at this
    exact Nat.mod_eq_zero_of_dvd this
  exact Nat.le_trans (List.length_filter_le _ _) (permL_few m m5)
theorem share_low {m : Nat} {he : Int} (hg : graphOk m he = true) (h0 : 0 ≤ he) : (in62 (fallF m m) ∧ in62 (selvesV m 0 he) ∧ selvesV m 0 he ≠ 0) ∧ lowP (fallF m m) (selvesV m 0 he) = shQ m he ∧ lowQ (fallF m m) (selvesV m 0 he) = 1 ∧ frIn (shQ m he) 1 := by
  obtain ⟨c, hc, c0, hd, c120, m5⟩ := selves_div hg h0
  have hf := factN_in m m5
  unfold shQ
  rw [hc, fallF_fact m m5]
  have hgcd : Int.gcd (factN m : Int) (c : Int) = c := by
    show Nat.gcd (factN m) c = c
    exact Nat.gcd_eq_right (Nat.dvd_of_mod_eq_zero hd)
  have hq : ((factN m : Int).tdiv c) = ((factN m / c : Nat) : Int) := by rw [Int.ofNat_tdiv]
  have hqle : factN m / c ≤ factN m := Nat.div_le_self _ _
  refine ⟨⟨by unfold in62; omega, by unfold in62; omega, by omega⟩, ?_, ?_, ?_⟩
  · unfold lowP
    rw [if_neg (by omega), hgcd]
  · unfold lowQ
    rw [if_neg (by omega), hgcd]
    exact Int.tdiv_self (by omega)
  · rw [hq]
    generalize factN m / c = f at *
    unfold frIn
    omega

def shV (n e l : Int) (ps : List Fr) (m : Nat) (he : Int) (g : Bool) : Fr × Bool := (valO (mul2 (chV n e l ps m he g).1 ⟨shQ m he, 1⟩), (chV n e l ps m he g).2 || (mul2 (chV n e l ps m he g).1 ⟨shQ m he, 1⟩).isNone)
def dnC (n e l : Int) (ps : List Fr) (m : Nat) (he : Int) : Prop := (((0 ≤ e ∧ e ≤ 4294967295) ∧ (0 ≤ l ∧ l ≤ 4294967295)) ∧ (m ≤ 5 ∧ 0 ≤ he ∧ he ≤ 4294967295) ∧ (1 ≤ n ∧ n ≤ 4) ∧ (ps.length : Int) = n ∧ allIn ps) ∧ graphOk m he = true
theorem chG_in {ps : List Fr} (h : allIn ps) : ∀ (AL : List (List Int)) (a : Fr) (g : Bool), frIn a.p a.q → frIn (chG ps a g AL).1.p (chG ps a g AL).1.q
  | [], a, g, ha => ha
  | L :: r, a, g, ha => by rw [chG]; exact chG_in h r _ _ (add2_in ha (prodG_in h L _ _ one_in))
noncomputable def sp_shareI : List (Option (List AV)) → List AV → Option (AV × List (Option (List AV))) := pv (pf (ι := (Int) × (Int) × (Int) × (List Fr) × (Nat) × (Int) × (Bool)) (α := AV × List (Option (List AV))) (fun ⟨n, e, l, ps, m, he, g⟩ => dnC n e l ps m he) (fun i => .agg (((fun ⟨n, e, l, ps, m, he, g⟩ => [some [.bool g], some [.int .i64 n, .int .u32 e, .int .u32 l, .sl (frsA ps) false]] : (Int) × (Int) × (Int) × (List Fr) × (Nat) × (Int) × (Bool) → List (Option (List AV))) i).map enO) :: (fun ⟨n, e, l, ps, m, he, g⟩ => [.ptr 0 0, .ptr 1 0, .agg [.int .i64 m, .int .u32 he]] : (Int) × (Int) × (Int) × (List Fr) × (Nat) × (Int) × (Bool) → List AV) i) (fun ⟨n, e, l, ps, m, he, g⟩ => (frA (shV n e l ps m he g).1, [some [.bool (shV n e l ps m he g).2], some [.int .i64 n, .int .u32 e, .int .u32 l, .sl (frsA ps) false]])))
theorem sp_shareI_eq (n e l : Int) (ps : List Fr) (m : Nat) (he : Int) (g : Bool) (h : dnC n e l ps m he) : sp_shareI [some [.bool g], some [.int .i64 n, .int .u32 e, .int .u32 l, .sl (frsA ps) false]] [.ptr 0 0, .ptr 1 0, .agg [.int .i64 m, .int .u32 he]] = some (frA (shV n e l ps m he g).1, [some [.bool (shV n e l ps m he g).2], some [.int .i64 n, .int .u32 e, .int .u32 l, .sl (frsA ps) false]]) := by
  unfold sp_shareI pv
  exact pf_eq (ι := (Int) × (Int) × (Int) × (List Fr) × (Nat) × (Int) × (Bool)) (α := AV × List (Option (List AV))) (n, e, l, ps, m, he, g) h (by rintro ⟨n', e', l', ps', m', he', g'⟩ _ e; simp_all [enO, Int.natCast_inj])
theorem v_impl_sums_share : QV PP 111 sp_shareI := by
  refine QV_pf fun i h => ?_
  obtain ⟨n, e, l, ps, m, he, g⟩ := i
  replace h : dnC n e l ps m he := h
  refine H_code (Quiet.q1 q_impl_lists (Quiet.q1 q_impl_Graph_selves (Quiet.q1 q_impl_lowest (Quiet.e1 v_impl_sums_chance.toE (Quiet.e1 m_impl_sums_mul.toE Quiet.nil))))) hmix k_impl_sums_share rfl (fun b => b) (by simp [AHeap.n]) (fun _ _ => rfl) (by rfl) (by first | rfl | simp) ?_
  show wpc _ PP _ c_impl_sums_share (initSt [.ptr 0 0, .ptr 1 0, .agg [.int .i64 m, .int .u32 he]] ⟨[some [.bool g], some [.int .i64 n, .int .u32 e, .int .u32 l, .sl (frsA ps) false]]⟩) (endH (fun b => b) r_impl_sums_share (frA (shV n e l ps m he g).1) [some [.bool (shV n e l ps m he g).2], some [.int .i64 n, .int .u32 e, .int .u32 l, .sl (frsA ps) false]])
  obtain ⟨hc, hg⟩ := h
  obtain ⟨h62, hlp, hlq, hfr⟩ := share_low hg hc.2.1.2.1
  have h1 := sp_chanceI_eq n e l ps m he g hc
  have h2 := sp_listsP_eq m m ⟨hc.2.1.1, hc.2.1.1⟩
  have h3 := sp_selves_eq m 0 he ⟨⟨hc.2.1.1, Nat.zero_le _⟩, hc.2.1.2⟩
  have h4 := sp_lowest_eq (fallF m m) (selvesV m 0 he) h62
  rw [hlp, hlq] at h4
  have hin : frIn (chV n e l ps m he g).1.p (chV n e l ps m he g).1.q := chG_in hc.2.2.2.2 _ _ _ zero_in
  have h5 := sp_mul_eq (chV n e l ps m he g).2 (chV n e l ps m he g).1.p (chV n e l ps m he g).1.q (shQ m he) 1 ⟨hin, hfr⟩
  unfold shV mul2
  generalize chV n e l ps m he g = C at h1 h5 ⊢
  have h30 : sp_selves [.agg [.int .i64 m, .int .u32 he], .int .i64 0] = some (.int .i64 (selvesV m 0 he)) := h3
  simp -dsimp -implicitDefEqProofs [c_impl_sums_share, r_impl_sums_share, h1, h2, h30, h4, h5, hsub, leL]
def densO (n e l : Int) (ps : List Fr) (m : Nat) (he : Int) : Option Fr := (chanceO n e l ps m he).bind fun c => mul2 c ⟨shQ m he, 1⟩
noncomputable def sp_densS : List (Option (List AV)) → List AV → Option (AV × List (Option (List AV))) := pv (pf (ι := (Int) × (Int) × (Int) × (List Fr) × (Nat) × (Int)) (α := AV × List (Option (List AV))) (fun ⟨n, e, l, ps, m, he⟩ => dnC n e l ps m he) (fun i => .agg (((fun ⟨n, e, l, ps, m, he⟩ => [some [.int .i64 n, .int .u32 e, .int .u32 l, .sl (frsA ps) false]] : (Int) × (Int) × (Int) × (List Fr) × (Nat) × (Int) → List (Option (List AV))) i).map enO) :: (fun ⟨n, e, l, ps, m, he⟩ => [.ptr 0 0, .agg [.int .i64 m, .int .u32 he]] : (Int) × (Int) × (Int) × (List Fr) × (Nat) × (Int) → List AV) i) (fun ⟨n, e, l, ps, m, he⟩ => (frO (densO n e l ps m he), [some [.int .i64 n, .int .u32 e, .int .u32 l, .sl (frsA ps) false]])))
theorem sp_densS_eq (n e l : Int) (ps : List Fr) (m : Nat) (he : Int) (h : dnC n e l ps m he) : sp_densS [some [.int .i64 n, .int .u32 e, .int .u32 l, .sl (frsA ps) false]] [.ptr 0 0, .agg [.int .i64 m, .int .u32 he]] = some (frO (densO n e l ps m he), [some [.int .i64 n, .int .u32 e, .int .u32 l, .sl (frsA ps) false]]) := by
  unfold sp_densS pv
  exact pf_eq (ι := (Int) × (Int) × (Int) × (List Fr) × (Nat) × (Int)) (α := AV × List (Option (List AV))) (n, e, l, ps, m, he) h (by rintro ⟨n', e', l', ps', m', he'⟩ _ e; simp_all [enO, Int.natCast_inj])
theorem chF_in {fit : List Int → Bool} {ps : List Fr} (h : allIn ps) : ∀ {AL : List (List Int)} {a v : Fr}, frIn a.p a.q → chF fit ps a AL = some v → frIn v.p v.q
  | [], a, v, ha, e => by rw [chF] at e; obtain rfl := Option.some.inj e; exact ha
  | L :: r, a, v, ha, e => by
    rw [chF] at e
    split at e
    · obtain ⟨w, hw, e⟩ := Option.bind_eq_some_iff.1 e
      obtain ⟨s, hs, e⟩ := Option.bind_eq_some_iff.1 e
      exact chF_in h (add2_some ha (prodO_in h one_in hw) hs) e
    · exact chF_in h ha e
theorem v_spec_l07Density : QV PP 110 sp_densS := by
  refine QV_pf fun i h => ?_
  obtain ⟨n, e, l, ps, m, he⟩ := i
  replace h : dnC n e l ps m he := h
  refine H_code (Quiet.q1 q_spec_CountSelf (Quiet.q1 q_spec_l02One (Quiet.q1 q_spec_l02Mul (Quiet.e1 v_spec_l07Chance.toE Quiet.nil)))) hmix k_spec_l07Density rfl (fun b => b) (by simp [AHeap.n]) (fun _ _ => rfl) (by rfl) (by first | rfl | simp) ?_
  show wpc _ PP _ c_spec_l07Density (initSt [.ptr 0 0, .agg [.int .i64 m, .int .u32 he]] ⟨[some [.int .i64 n, .int .u32 e, .int .u32 l, .sl (frsA ps) false]]⟩) (endH (fun b => b) r_spec_l07Density (frO (densO n e l ps m he)) [some [.int .i64 n, .int .u32 e, .int .u32 l, .sl (frsA ps) false]])
  obtain ⟨hc, hg⟩ := h
  obtain ⟨h62, _, _, hfr⟩ := share_low hg hc.2.1.2.1
  have h1 := sp_chanceS_eq n e l ps m he hc
  have h2 := sp_countS_eq m he ⟨hg, hc.2.1.2⟩
  unfold selfR at h2
  have hm5 := hc.2.1.1
  unfold densO
  cases hco : chanceO n e l ps m he with
  | none =>
    rw [hco] at h1
    simp -dsimp -implicitDefEqProofs [c_spec_l07Density, r_spec_l07Density, h1, frO, hsub]
  | some v =>
    rw [hco] at h1
    have hv : frIn v.p v.q := chF_in hc.2.2.2.2 zero_in hco
    have h3 := sp_l02Mul_eq v.p v.q (shQ m he) 1 ⟨hv, hfr⟩
    simp only [Option.bind_some, mul2]
    simp -dsimp -implicitDefEqProofs [c_spec_l07Density, r_spec_l07Density, h1, frO]
    refine wpLoop_st (fun (j : Nat) => ⟨tl [(3, .ptr 1 0), (4, .ptr 2 0), (6, .ptr 3 0), (8, .int .i64 (factN (j + 1))), (9, .int .i64 ((j : Int) + 2))], ⟨[some [.int .i64 n, .int .u32 e, .int .u32 l, .sl (frsA ps) false], some [.int .i64 m, .int .u32 he], some [.int .i64 0, .int .i64 0], some [.int .i64 v.p, .int .i64 v.q]]⟩⟩) (fun j => j + 1 ≤ max m 1) (fun j => max m 1 - j) 0 (by omega) (Sub.keep (by simp) (by simp [hsub]) (by simp [factN])) ?_
    intro j hj
    simp -dsimp -implicitDefEqProofs
    refine brW_of (fun h => ?_) (fun h => ?_) <;> simp only [decide_eq_true_eq, decide_eq_false_iff_not] at h
    · have hb := factN_in (j + 2) (by omega)
      have w1 : IntKind.i64.wrap ((factN (j + 1) : Int) * ((j : Int) + 2)) = factN (j + 2) := by
        have : ((factN (j + 1) : Int) * ((j : Int) + 2)) = ((factN (j + 1) * (j + 1 + 1) : Nat) : Int) := by rw [Int.natCast_mul]; congr 1
        rw [this]
        have : factN (j + 1) * (j + 1 + 1) = factN (j + 2) := rfl
        rw [this]
        exact wrapI64 (by omega) (by omega)
      have w2 : IntKind.i64.wrap ((j : Int) + 2 + 1) = (j : Int) + 1 + 2 := by rw [wrapI64 (by omega) (by omega)]; omega
      simp -dsimp -implicitDefEqProofs [w1, w2]
      exact .mk (j + 1) (by omega) (by omega) (Sub.keep (by simp) (by simp [hsub]) (by simp [w1, w2]))
    · have hfm : factN (j + 1) = factN m := by
        rcases Nat.eq_zero_or_pos m with rfl | hm0
        · have : j = 0 := by omega
          subst this; rfl
        · have : j + 1 = m := by omega
          rw [this]
      rw [hfm]
      have wq : IntKind.i64.wrap ((factN m : Int).tdiv (selvesV m 0 he)) = shQ m he := by
        unfold frIn at hfr
        exact wrapI64 (by unfold shQ at hfr; omega) (by unfold shQ at hfr; omega)
      have wq2 : IntKind.i64.wrap ((factN m : Int) / selvesV m 0 he) = shQ m he := by
        rw [← wq, Int.tdiv_eq_ediv_of_nonneg (by omega)]
      cases hmu : mulO v.p v.q (shQ m he) 1 with
      | none =>
        rw [hmu] at h3
        simp -dsimp -implicitDefEqProofs [h2, h62.2.2, wq, wq2, h3, frO, hsub]
      | some w =>
        rw [hmu] at h3
        simp -dsimp -implicitDefEqProofs [h2, h62.2.2, wq, wq2, h3, frO, hsub]
theorem told_sh (n e l : Int) (ps : List Fr) (m : Nat) (he : Int) : toldA (shV n e l ps m he false).2 (shV n e l ps m he false).1.p (shV n e l ps m he false).1.q = frO (densO n e l ps m he) := by
  obtain ⟨h1, h2⟩ := chF_G (fit := fun L => fitL true he e l L m) (ps := ps) (allL n.toNat m) ⟨0, 1⟩ false
  have h1 : ∀ v, chanceO n e l ps m he = some v → chV n e l ps m he false = (v, false) := h1
  have h2 : chanceO n e l ps m he = none → (chV n e l ps m he false).2 = true := h2
  unfold shV densO
  cases hc : chanceO n e l ps m he with
  | none => rw [toldA, h2 hc]; rfl
  | some v =>
    rw [h1 v hc]
    simp only [Option.bind_some, Bool.false_or]
    cases hmu : mul2 v ⟨shQ m he, 1⟩ with
    | none => rfl
    | some w => rfl
def densR (n e l : Int) (ps : List Fr) (hn he : Int) : AV := if patOk n e l ps = true ∧ graphOk hn he = true then frO (densO n e l ps hn.toNat he) else noFr 1
@[simp] theorem densR_lt (n e l : Int) (ps : List Fr) (hn he : Int) (k : Nat) : (densR n e l ps hn he).lt k = true := by unfold densR; split; exact frO_lt _ _; rfl
noncomputable def sp_densP : List AV → Option (AV) := pf (ι := (Int) × (Int) × (Int) × (List Fr) × (Int) × (Int)) (α := AV) (fun ⟨n, e, l, ps, hn, he⟩ => ((0 ≤ e ∧ e ≤ 4294967295) ∧ (0 ≤ l ∧ l ≤ 4294967295) ∧ ps.length ≤ maxLen) ∧ (0 ≤ he ∧ he ≤ 4294967295)) (fun ⟨n, e, l, ps, hn, he⟩ => [.agg [.int .i64 n, .int .u32 e, .int .u32 l, .sl (frsA ps) false], .agg [.int .i64 hn, .int .u32 he]]) (fun ⟨n, e, l, ps, hn, he⟩ => densR n e l ps hn he)
theorem sp_densP_eq (n e l : Int) (ps : List Fr) (hn he : Int) (h : ((0 ≤ e ∧ e ≤ 4294967295) ∧ (0 ≤ l ∧ l ≤ 4294967295) ∧ ps.length ≤ maxLen) ∧ (0 ≤ he ∧ he ≤ 4294967295)) : sp_densP [.agg [.int .i64 n, .int .u32 e, .int .u32 l, .sl (frsA ps) false], .agg [.int .i64 hn, .int .u32 he]] = some (densR n e l ps hn he) := by
  unfold sp_densP
  exact pf_eq (ι := (Int) × (Int) × (Int) × (List Fr) × (Int) × (Int)) (α := AV) (n, e, l, ps, hn, he) h (by rintro ⟨n', e', l', ps', hn', he'⟩ _ e; simp_all [Int.natCast_inj])
theorem q_spec_DensityIn : QP PP 44 sp_densP := by
  refine QP_pf (fun i h => ?_) fun i h => ?_
  · obtain ⟨n, e, l, ps, hn, he⟩ := i; exact ⟨by first | rfl | simp, by first | rfl | simp⟩
  obtain ⟨n, e, l, ps, hn, he⟩ := i
  replace h : ((0 ≤ e ∧ e ≤ 4294967295) ∧ (0 ≤ l ∧ l ≤ 4294967295) ∧ ps.length ≤ maxLen) ∧ (0 ≤ he ∧ he ≤ 4294967295) := h
  refine P_code (Quiet.q1 q_spec_l01Ok (Quiet.e1 m_spec_l07Ok.toE (Quiet.e1 v_spec_l07Density.toE Quiet.nil))) hmix k_spec_DensityIn rfl ?_ ?_
  · first | rfl | simp
  show wpc 0 PP _ c_spec_DensityIn (initSt [.agg [.int .i64 n, .int .u32 e, .int .u32 l, .sl (frsA ps) false], .agg [.int .i64 hn, .int .u32 he]] .nil) (endP r_spec_DensityIn (densR n e l ps hn he))
  obtain ⟨hp, hhe⟩ := h
  unfold densR
  have h1 := sp_l07Ok_eq n e l ps hp
  have h2 := sp_graphOk_eq hn he hhe
  cases hpo : patOk n e l ps with
  | false => simp -dsimp -implicitDefEqProofs [c_spec_DensityIn, r_spec_DensityIn, h1, h2, hpo, noFr]
  | true =>
    cases hg : graphOk hn he with
    | false => simp -dsimp -implicitDefEqProofs [c_spec_DensityIn, r_spec_DensityIn, h1, h2, hpo, hg, noFr]
    | true =>
      obtain ⟨_, hn4, _, hlen, hall⟩ := patOk_spec hpo
      obtain ⟨⟨m0, m5⟩, _⟩ := graphOk_lt hg hhe.1
      obtain ⟨m, rfl⟩ := Int.eq_ofNat_of_zero_le m0
      have h3 := sp_densS_eq n e l ps m he ⟨⟨⟨hp.1, hp.2.1⟩, ⟨by omega, hhe⟩, hn4, hlen, allOk_in hall⟩, hg⟩
      cases hc : densO n e l ps m he with
      | none => rw [hc] at h3; simp -dsimp -implicitDefEqProofs [c_spec_DensityIn, r_spec_DensityIn, h1, h2, hpo, hg, h3, hc, frO]
      | some v => rw [hc] at h3; simp -dsimp -implicitDefEqProofs [c_spec_DensityIn, r_spec_DensityIn, h1, h2, hpo, hg, h3, hc, frO]
theorem q_impl_DensityIn : QP PP 45 sp_densP := by
  refine QP_pf (fun i h => ?_) fun i h => ?_
  · obtain ⟨n, e, l, ps, hn, he⟩ := i; exact ⟨by first | rfl | simp, by first | rfl | simp⟩
  obtain ⟨n, e, l, ps, hn, he⟩ := i
  replace h : ((0 ≤ e ∧ e ≤ 4294967295) ∧ (0 ≤ l ∧ l ≤ 4294967295) ∧ ps.length ≤ maxLen) ∧ (0 ≤ he ∧ he ≤ 4294967295) := h
  refine P_code (Quiet.q1 q_impl_ValidPattern (Quiet.q1 q_impl_badGraph (Quiet.e1 v_impl_sums_share.toE (Quiet.e1 m_impl_sums_told.toE Quiet.nil)))) hmix k_impl_DensityIn rfl ?_ ?_
  · first | rfl | simp
  show wpc 0 PP _ c_impl_DensityIn (initSt [.agg [.int .i64 n, .int .u32 e, .int .u32 l, .sl (frsA ps) false], .agg [.int .i64 hn, .int .u32 he]] .nil) (endP r_impl_DensityIn (densR n e l ps hn he))
  obtain ⟨hp, hhe⟩ := h
  unfold densR
  have h1 := sp_patOk_eq n e l ps hp
  have h2 := sp_badGraph_eq hn he hhe
  cases hpo : patOk n e l ps with
  | false => simp -dsimp -implicitDefEqProofs [c_impl_DensityIn, r_impl_DensityIn, h1, h2, hpo, noFr]
  | true =>
    cases hg : graphOk hn he with
    | false => simp -dsimp -implicitDefEqProofs [c_impl_DensityIn, r_impl_DensityIn, h1, h2, hpo, hg, noFr]
    | true =>
      obtain ⟨_, hn4, _, hlen, hall⟩ := patOk_spec hpo
      obtain ⟨⟨m0, m5⟩, _⟩ := graphOk_lt hg hhe.1
      obtain ⟨m, rfl⟩ := Int.eq_ofNat_of_zero_le m0
      have h3 := sp_shareI_eq n e l ps m he false ⟨⟨⟨hp.1, hp.2.1⟩, ⟨by omega, hhe⟩, hn4, hlen, allOk_in hall⟩, hg⟩
      have h4 := told_sh n e l ps m he
      rw [Int.toNat_natCast, ← h4]
      generalize shV n e l ps m he false = C at h3 h4 ⊢
      obtain ⟨⟨cp, cq⟩, cg⟩ := C
      simp only at h3
      cases cg <;> simp -dsimp -implicitDefEqProofs [c_impl_DensityIn, r_impl_DensityIn, h1, h2, hpo, hg, h3, toldA]

set_option maxHeartbeats 2000000 in
theorem law_densityIn (xs : List AV) (h : WtA [tyPattern, tyGraph] xs) : T PP 10 xs .nil fun r _ => r = .bool true := by
  simp only [WtA_cons, WtA_nil] at h
  obtain ⟨x, _, rfl, hx, y, _, rfl, hy, rfl⟩ := h
  obtain ⟨n, e, l, ps, rfl, h⟩ := wt_pattern hx
  simp only [tyGraph, WtV_st, WtL_int, WtL_nil] at hy
  obtain ⟨_, rfl, hn, _, rfl, _, he, _, rfl, hhe, rfl⟩ := hy
  have hhe : 0 ≤ he ∧ he ≤ 4294967295 := ⟨by simpa [IntKind.min, IntKind.signed] using hhe.1, by simpa [IntKind.max, IntKind.signed, IntKind.bits] using hhe.2⟩
  refine (P_code (r := .bool true) (Quiet.q1 q_laws_szPattern (Quiet.q1 q_laws_toGraph (Quiet.q1 q_laws_eqFraction (Quiet.e1 q_spec_DensityIn.toR (Quiet.e1 n_laws_toPattern.toE (Quiet.e1 q_impl_DensityIn.toR (Quiet.e1 q_laws_eqPattern.toR Quiet.nil))))))) hmix k_laws_FnExactDensityIn rfl rfl ?_).mono fun r A' h => h.1
  by_cases c : (ps.length : Int) ≤ 1048576
  · have c2 : ¬ ((1048576 : Int) - ps.length < 0) := by omega
    have hT := sp_toPatN_eq n e l ps (by omega)
    have hq := eqPat_refl n e l ps h.2.2
    have hB := sp_densP_eq n e l ps hn he ⟨⟨h.1, h.2.1, h.2.2⟩, hhe⟩
    have hR : ∃ p q c, densR n e l ps hn he = .tup [.agg [.int .i64 p, .int .i64 q], .int .i64 c] := by
      unfold densR noFr
      split
      · cases densO n e l ps hn.toNat he with
        | none => exact ⟨_, _, _, rfl⟩
        | some v => exact ⟨_, _, _, rfl⟩
      · exact ⟨_, _, _, rfl⟩
    obtain ⟨p, q, cd, hR⟩ := hR
    rw [hR] at hB
    simp -dsimp -implicitDefEqProofs [c_laws_FnExactDensityIn, r_laws_FnExactDensityIn, sp_szPattern_eq n e l ps 1048576 ⟨by omega, by omega, h.2.2⟩, c, c2, hT, hq, hB]
  · simp -dsimp -implicitDefEqProofs [c_laws_FnExactDensityIn, r_laws_FnExactDensityIn, sp_szPattern_eq n e l ps 1048576 ⟨by omega, by omega, h.2.2⟩, c]
end Go.Proofs.YtkgodhdpcomjbaaAi
end

section
/- MADE BY PROGRAM (wip/tools/gen.py): the abstract code of functions. -/
namespace Go.Proofs.YtkgodhdpcomjbaaAi
open Go AC AOp Opd
set_option linter.unusedVariables false
set_option maxRecDepth 100000
def c_impl_freeGraphs_1 : AC := seq (reg [⟨(some 1), box 2 (t 0), none⟩, ⟨(some 2), mv (c (.bool false)), none⟩]) (seq (reg [⟨(some 2), mv (c (.bool true)), none⟩]) (ret))
def r_impl_freeGraphs_1 : List ARes := [.tmp 2]
theorem k_impl_freeGraphs_1 : acLin Go.Proofs.Try.prog 165 1 (inQ [] []) [] = some (c_impl_freeGraphs_1, r_impl_freeGraphs_1) := by kernel_rfl
def c_impl_freeGraphs_2 : AC := seq (reg [⟨(some 2), box 2 (t 0), none⟩, ⟨(some 3), mv (c (.bool false)), none⟩]) (seq (reg [⟨(some 4), ld (t 2) 2 true, none⟩, ⟨(some 5), ld (t 1) 1 false, none⟩, ⟨(some 6), callq (c (.fn 167 [])) [t 4, t 5], none⟩, ⟨(some 7), un .not (t 6), none⟩, ⟨(some 3), mv (t 7), none⟩]) (ret))
def r_impl_freeGraphs_2 : List ARes := [.tmp 3]
theorem k_impl_freeGraphs_2 : acLin Go.Proofs.Try.prog 166 2 (inQ [167] []) [] = some (c_impl_freeGraphs_2, r_impl_freeGraphs_2) := by kernel_rfl
def c_impl_Graph_free : AC := seq (reg [⟨(some 2), box 2 (t 0), none⟩, ⟨(some 4), mv (c (.bool false)), none⟩]) (seq (reg [⟨(some 5), mv (t 1), none⟩, ⟨(some 6), ld (t 2) 2 true, none⟩, ⟨(some 7), mkm 182 [t 6], none⟩, ⟨(some 8), calle (c (.fn 99 [])) [t 5, t 7] [], none⟩, ⟨(some 9), un .not (t 8), none⟩, ⟨(some 4), mv (t 9), none⟩]) (ret))
def r_impl_Graph_free : List ARes := [.tmp 4]
theorem k_impl_Graph_free : acLin Go.Proofs.Try.prog 167 2 (inQ [] [99]) [] = some (c_impl_Graph_free, r_impl_Graph_free) := by kernel_rfl
def c_impl_leasts : AC := seq (reg [⟨(some 6), mv (c (.sl [] true)), none⟩]) (seq (reg [⟨(some 10), bsl 2 0 [.int .i64 0, .int .u32 0] [], none⟩, ⟨(some 7), mv (t 10), none⟩]) (seq (seq (reg [⟨(some 11), mv (t 0), none⟩, ⟨(some 12), callq (c (.fn 171 [])) [t 11], none⟩, ⟨(some 13), bin .shl (c (.int .u32 1)) (t 12), none⟩, ⟨(some 14), mv (c (.int .u32 0)), none⟩]) (block 0 (loop (seq (reg [⟨(some 15), bin .lss (t 14) (t 13), none⟩]) (seq (cond (t 15) (skip) (exit 0)) (seq (block 1 (seq (reg [⟨(some 16), mv (t 14), none⟩, ⟨(some 8), mv (t 16), none⟩]) (seq (reg [⟨(some 17), mv (t 0), none⟩, ⟨(some 18), mv (t 8), none⟩, ⟨(some 19), bld [.int .i64 0, .int .u32 0] [(0, 1, t 17), (1, 1, t 18)], none⟩, ⟨(some 9), alloc [.int .i64 0, .int .u32 0], none⟩, ⟨none, st (t 9) 2 (t 19), none⟩]) (seq (reg [⟨(some 20), mv (t 2), none⟩, ⟨(some 21), ld (t 9) 2 true, none⟩, ⟨(some 22), call (t 20) [t 21], none⟩, ⟨(some 23), mv (t 22), none⟩, ⟨(some 24), ld (t 9) 2 true, some (23, true)⟩, ⟨(some 25), mv (t 1), some (23, true)⟩, ⟨(some 26), callq (c (.fn 181 [])) [t 24, t 25], some (23, true)⟩, ⟨(some 27), pick (t 23) (t 26) (c (.bool false)), none⟩]) (cond (t 27) (reg [⟨(some 28), mv (t 7), none⟩, ⟨(some 29), ld (t 9) 2 true, none⟩, ⟨(some 30), bsl 2 1 [.int .i64 0, .int .u32 0] [(0, t 29)], none⟩, ⟨(some 31), app 2 16 (t 28) (t 30), none⟩, ⟨(some 7), mv (t 31), none⟩]) (skip)))))) (reg [⟨(some 32), bin .add (t 14) (c (.int .u32 1)), none⟩, ⟨(some 14), mv (t 32), none⟩]))))))) (seq (reg [⟨(some 33), mv (t 7), none⟩, ⟨(some 6), mv (t 33), none⟩]) (ret))))
def r_impl_leasts : List ARes := [.tmp 6]
theorem k_impl_leasts : acLin Go.Proofs.Try.prog 164 3 (inQ [171, 181] []) [] = some (c_impl_leasts, r_impl_leasts) := by kernel_rfl
def c_slices_DeleteFunc_Simpl_Graph_impl_Graph : AC := seq (reg [⟨(some 4), mv (c (.sl [] true)), none⟩]) (seq (reg [⟨(some 8), mv (t 0), none⟩, ⟨(some 9), mv (t 1), none⟩, ⟨(some 10), calle (c (.fn 155 [])) [t 8, t 9] [], none⟩, ⟨(some 5), mv (t 10), none⟩]) (seq (seq (reg [⟨(some 11), mv (t 5), none⟩, ⟨(some 12), bin .eql (t 11) (c (.int .i64 (-1))), none⟩]) (cond (t 12) (seq (reg [⟨(some 13), mv (t 0), none⟩, ⟨(some 4), mv (t 13), none⟩]) (ret)) (skip))) (seq (seq (reg [⟨(some 14), mv (t 5), none⟩, ⟨(some 15), bin .add (t 14) (c (.int .i64 1)), none⟩, ⟨(some 6), mv (t 15), none⟩]) (block 0 (loop (seq (seq (reg [⟨(some 16), mv (t 6), none⟩, ⟨(some 17), mv (t 0), none⟩, ⟨(some 18), len (t 17), none⟩, ⟨(some 19), bin .lss (t 16) (t 18), none⟩]) (cond (t 19) (skip) (exit 0))) (seq (block 1 (seq (reg [⟨(some 22), mv (t 0), none⟩, ⟨(some 23), mv (t 6), none⟩, ⟨(some 24), iad 2 (t 22) (t 23), none⟩, ⟨(some 25), ld (t 24) 2 true, none⟩, ⟨(some 7), alloc [.int .i64 0, .int .u32 0], none⟩, ⟨none, st (t 7) 2 (t 25), none⟩]) (seq (reg [⟨(some 26), mv (t 1), none⟩, ⟨(some 27), ld (t 7) 2 true, none⟩, ⟨(some 28), call (t 26) [t 27], none⟩, ⟨(some 29), un .not (t 28), none⟩]) (cond (t 29) (seq (reg [⟨(some 30), mv (t 0), none⟩, ⟨(some 31), mv (t 5), none⟩, ⟨(some 32), ld (t 7) 2 true, none⟩, ⟨(some 33), iad 2 (t 30) (t 31), none⟩, ⟨none, st (t 33) 2 (t 32), none⟩]) (reg [⟨(some 34), mv (t 5), none⟩, ⟨(some 35), bin .add (t 34) (c (.int .i64 1)), none⟩, ⟨(some 5), mv (t 35), none⟩])) (skip))))) (reg [⟨(some 20), mv (t 6), none⟩, ⟨(some 21), bin .add (t 20) (c (.int .i64 1)), none⟩, ⟨(some 6), mv (t 21), none⟩])))))) (seq (reg [⟨(some 36), mv (t 0), none⟩, ⟨(some 37), mv (t 5), none⟩, ⟨(some 38), sli 2 (t 36) (some (t 37)) none none, none⟩, ⟨none, clr 2 [.int .i64 0, .int .u32 0] (t 38), none⟩]) (seq (reg [⟨(some 39), mv (t 0), none⟩, ⟨(some 40), mv (t 5), none⟩, ⟨(some 41), sli 2 (t 39) none (some (t 40)) none, none⟩, ⟨(some 4), mv (t 41), none⟩]) (ret))))))
def r_slices_DeleteFunc_Simpl_Graph_impl_Graph : List ARes := [.tmp 4]
theorem k_slices_DeleteFunc_Simpl_Graph_impl_Graph : acLin Go.Proofs.Try.prog 163 2 (inQ [] [155]) [] = some (c_slices_DeleteFunc_Simpl_Graph_impl_Graph, r_slices_DeleteFunc_Simpl_Graph_impl_Graph) := by kernel_rfl
def c_impl_freeGraphs : AC := seq (reg [⟨(some 3), box 1 (t 1), none⟩, ⟨(some 4), mv (c (.sl [] true)), none⟩]) (seq (reg [⟨(some 5), mv (t 0), none⟩, ⟨(some 6), calle (c (.fn 164 [])) [t 5, c (.int .i64 0), c (.fn 165 [])] [], none⟩, ⟨(some 7), mkf 166 [t 3], none⟩, ⟨(some 8), calle (c (.fn 163 [])) [t 6, t 7] [], none⟩, ⟨(some 4), mv (t 8), none⟩]) (ret))
def r_impl_freeGraphs : List ARes := [.tmp 4]
theorem k_impl_freeGraphs : acLin Go.Proofs.Try.prog 123 2 (inQ [165] [163, 164]) [] = some (c_impl_freeGraphs, r_impl_freeGraphs) := by kernel_rfl
def c_impl_DensitiesIn : AC := seq (reg [⟨(some 2), box 4 (t 0), none⟩, ⟨(some 4), mv (c (.sl [] true)), none⟩, ⟨(some 5), mv (c (.int .i64 0)), none⟩]) (seq (block 0 (seq (reg [⟨(some 11), ld (t 2) 4 true, none⟩, ⟨(some 12), callq (c (.fn 65 [])) [t 11], none⟩, ⟨(some 13), un .not (t 12), none⟩, ⟨(some 10), mv (t 13), none⟩]) (cond (t 10) (seq (reg [⟨(some 4), mv (c (.sl [] true)), none⟩, ⟨(some 5), mv (c (.int .i64 1)), none⟩]) (ret)) (seq (reg [⟨(some 15), mv (t 1), none⟩, ⟨(some 16), callq (c (.fn 78 [])) [t 15], none⟩, ⟨(some 17), un .not (t 16), none⟩, ⟨(some 14), mv (t 17), none⟩]) (cond (t 14) (seq (reg [⟨(some 4), mv (c (.sl [] true)), none⟩, ⟨(some 5), mv (c (.int .i64 2)), none⟩]) (ret)) (skip)))))) (seq (reg [⟨(some 18), bld [.bool false] [], none⟩, ⟨(some 19), bsl 2 0 [.int .i64 0, .int .i64 0] [], none⟩, ⟨(some 6), alloc [.bool false], none⟩, ⟨none, st (t 6) 1 (t 18), none⟩, ⟨(some 7), mv (t 19), none⟩]) (seq (seq (reg [⟨(some 20), mv (t 1), none⟩, ⟨(some 21), calle (c (.fn 123 [])) [t 20, c (.sl [] true)] [], none⟩, ⟨(some 22), len (t 21), none⟩, ⟨(some 23), mv (c (.int .i64 0)), none⟩]) (block 1 (loop (seq (reg [⟨(some 24), bin .lss (t 23) (t 22), none⟩]) (seq (cond (t 24) (skip) (exit 1)) (seq (block 2 (seq (reg [⟨(some 25), iad 2 (t 21) (t 23), none⟩, ⟨(some 26), ld (t 25) 2 true, none⟩, ⟨(some 9), alloc [.int .i64 0, .int .u32 0], none⟩, ⟨none, st (t 9) 2 (t 26), none⟩]) (reg [⟨(some 27), mv (t 7), none⟩, ⟨(some 28), ld (t 9) 2 true, none⟩, ⟨(some 29), calle (c (.fn 111 [])) [t 6, t 2, t 28] [], none⟩, ⟨(some 30), bsl 2 1 [.int .i64 0, .int .i64 0] [(0, t 29)], none⟩, ⟨(some 31), app 2 16 (t 27) (t 30), none⟩, ⟨(some 7), mv (t 31), none⟩]))) (reg [⟨(some 32), bin .add (t 23) (c (.int .i64 1)), none⟩, ⟨(some 23), mv (t 32), none⟩]))))))) (seq (seq (reg [⟨(some 33), fad (t 6) 0, none⟩, ⟨(some 34), ld (t 33) 1 false, none⟩]) (cond (t 34) (seq (reg [⟨(some 4), mv (c (.sl [] true)), none⟩, ⟨(some 5), mv (c (.int .i64 3)), none⟩]) (ret)) (skip))) (seq (reg [⟨(some 35), mv (t 7), none⟩, ⟨(some 4), mv (t 35), none⟩, ⟨(some 5), mv (c (.int .i64 0)), none⟩]) (ret))))))
def r_impl_DensitiesIn : List ARes := [.tmp 4, .tmp 5]
theorem k_impl_DensitiesIn : acLin Go.Proofs.Try.prog 49 2 (inQ [65, 78] [111, 123]) [] = some (c_impl_DensitiesIn, r_impl_DensitiesIn) := by kernel_rfl
def c_spec_l01All : AC := seq (reg [⟨(some 2), mv (c (.sl [] true)), none⟩]) (seq (reg [⟨(some 6), bsl 2 0 [.int .i64 0, .int .u32 0] [], none⟩, ⟨(some 3), mv (t 6), none⟩]) (seq (seq (reg [⟨(some 4), mv (c (.int .i64 0)), none⟩]) (block 0 (loop (seq (seq (reg [⟨(some 7), mv (t 4), none⟩, ⟨(some 8), mv (t 0), none⟩, ⟨(some 9), callq (c (.fn 135 [])) [t 8], none⟩, ⟨(some 10), conv .u64 (t 9), none⟩, ⟨(some 11), bin .shl (c (.int .i64 1)) (t 10), none⟩, ⟨(some 12), bin .lss (t 7) (t 11), none⟩]) (cond (t 12) (skip) (exit 0))) (seq (block 1 (seq (reg [⟨(some 15), mv (t 0), none⟩, ⟨(some 16), mv (t 4), none⟩, ⟨(some 17), conv .u32 (t 16), none⟩, ⟨(some 18), bld [.int .i64 0, .int .u32 0] [(0, 1, t 15), (1, 1, t 17)], none⟩, ⟨(some 5), alloc [.int .i64 0, .int .u32 0], none⟩, ⟨none, st (t 5) 2 (t 18), none⟩]) (seq (reg [⟨(some 19), ld (t 5) 2 true, none⟩, ⟨(some 20), callq (c (.fn 162 [])) [t 19], none⟩]) (cond (t 20) (reg [⟨(some 21), mv (t 3), none⟩, ⟨(some 22), ld (t 5) 2 true, none⟩, ⟨(some 23), bsl 2 1 [.int .i64 0, .int .u32 0] [(0, t 22)], none⟩, ⟨(some 24), app 2 16 (t 21) (t 23), none⟩, ⟨(some 3), mv (t 24), none⟩]) (skip))))) (reg [⟨(some 13), mv (t 4), none⟩, ⟨(some 14), bin .add (t 13) (c (.int .i64 1)), none⟩, ⟨(some 4), mv (t 14), none⟩])))))) (seq (reg [⟨(some 25), mv (t 3), none⟩, ⟨(some 2), mv (t 25), none⟩]) (ret))))
def r_spec_l01All : List ARes := [.tmp 2]
theorem k_spec_l01All : acLin Go.Proofs.Try.prog 122 1 (inQ [135, 162] []) [] = some (c_spec_l01All, r_spec_l01All) := by kernel_rfl
def c_spec_DensitiesIn : AC := seq (reg [⟨(some 2), box 4 (t 0), none⟩, ⟨(some 4), mv (c (.sl [] true)), none⟩, ⟨(some 5), mv (c (.int .i64 0)), none⟩]) (seq (seq (reg [⟨(some 11), calle (c (.fn 61 [])) [t 2] [], none⟩, ⟨(some 12), un .not (t 11), none⟩]) (cond (t 12) (seq (reg [⟨(some 13), bsl 2 0 [.int .i64 0, .int .i64 0] [], none⟩, ⟨(some 4), mv (t 13), none⟩, ⟨(some 5), mv (c (.int .i64 1)), none⟩]) (ret)) (skip))) (seq (seq (reg [⟨(some 14), mv (t 1), none⟩, ⟨(some 15), callq (c (.fn 73 [])) [t 14, c (.int .i64 0), c (.int .i64 5)], none⟩, ⟨(some 16), un .not (t 15), none⟩]) (cond (t 16) (seq (reg [⟨(some 17), bsl 2 0 [.int .i64 0, .int .i64 0] [], none⟩, ⟨(some 4), mv (t 17), none⟩, ⟨(some 5), mv (c (.int .i64 2)), none⟩]) (ret)) (skip))) (seq (reg [⟨(some 18), mv (t 1), none⟩, ⟨(some 19), calle (c (.fn 122 [])) [t 18] [], none⟩, ⟨(some 6), mv (t 19), none⟩]) (seq (reg [⟨(some 20), bsl 2 0 [.int .i64 0, .int .i64 0] [], none⟩, ⟨(some 7), mv (t 20), none⟩]) (seq (seq (reg [⟨(some 8), mv (c (.int .i64 0)), none⟩]) (block 0 (loop (seq (seq (reg [⟨(some 21), mv (t 8), none⟩, ⟨(some 22), mv (t 6), none⟩, ⟨(some 23), len (t 22), none⟩, ⟨(some 24), bin .lss (t 21) (t 23), none⟩]) (cond (t 24) (skip) (exit 0))) (seq (block 1 (seq (reg [⟨(some 28), mv (t 6), none⟩, ⟨(some 29), mv (t 8), none⟩, ⟨(some 30), iad 2 (t 28) (t 29), none⟩, ⟨(some 31), ld (t 30) 2 true, none⟩, ⟨(some 32), calle (c (.fn 110 [])) [t 2, t 31] [], none⟩, ⟨(some 27), mv (t 32), none⟩, ⟨(some 33), ext (t 27) 0, none⟩, ⟨(some 34), ext (t 27) 1, none⟩, ⟨(some 9), alloc [.int .i64 0, .int .i64 0], none⟩, ⟨none, st (t 9) 2 (t 33), none⟩, ⟨(some 10), mv (t 34), none⟩]) (seq (seq (reg [⟨(some 35), mv (t 10), none⟩, ⟨(some 36), bin .neq (t 35) (c (.int .i64 0)), none⟩]) (cond (t 36) (seq (reg [⟨(some 37), bsl 2 0 [.int .i64 0, .int .i64 0] [], none⟩, ⟨(some 38), mv (t 10), none⟩, ⟨(some 4), mv (t 37), none⟩, ⟨(some 5), mv (t 38), none⟩]) (ret)) (skip))) (reg [⟨(some 39), mv (t 7), none⟩, ⟨(some 40), ld (t 9) 2 true, none⟩, ⟨(some 41), bsl 2 1 [.int .i64 0, .int .i64 0] [(0, t 40)], none⟩, ⟨(some 42), app 2 16 (t 39) (t 41), none⟩, ⟨(some 7), mv (t 42), none⟩])))) (reg [⟨(some 25), mv (t 8), none⟩, ⟨(some 26), bin .add (t 25) (c (.int .i64 1)), none⟩, ⟨(some 8), mv (t 26), none⟩])))))) (seq (reg [⟨(some 43), mv (t 7), none⟩, ⟨(some 4), mv (t 43), none⟩, ⟨(some 5), mv (c (.int .i64 0)), none⟩]) (ret)))))))
def r_spec_DensitiesIn : List ARes := [.tmp 4, .tmp 5]
theorem k_spec_DensitiesIn : acLin Go.Proofs.Try.prog 48 2 (inQ [73] [61, 110, 122]) [] = some (c_spec_DensitiesIn, r_spec_DensitiesIn) := by kernel_rfl
def c_laws_FnExactDensitiesIn : AC := seq (reg [⟨(some 2), box 4 (t 0), none⟩, ⟨(some 4), mv (c (.bool false)), none⟩]) (seq (reg [⟨(some 5), mv (c (.int .i64 1048576)), none⟩]) (seq (reg [⟨(some 16), ld (t 2) 4 true, none⟩, ⟨(some 17), mv (t 5), none⟩, ⟨(some 18), callq (c (.fn 14 [])) [t 16, t 17], none⟩, ⟨(some 5), mv (t 18), none⟩]) (seq (seq (reg [⟨(some 19), mv (t 5), none⟩, ⟨(some 20), bin .lss (t 19) (c (.int .i64 0)), none⟩]) (cond (t 20) (seq (reg [⟨(some 4), mv (c (.bool true)), none⟩]) (ret)) (skip))) (seq (reg [⟨(some 22), ld (t 2) 4 true, none⟩, ⟨(some 23), calle (c (.fn 16 [])) [t 22] [], none⟩, ⟨(some 24), mv (t 1), none⟩, ⟨(some 25), calle (c (.fn 48 [])) [t 23, t 24] [], none⟩, ⟨(some 21), mv (t 25), none⟩, ⟨(some 26), ext (t 21) 0, none⟩, ⟨(some 27), ext (t 21) 1, none⟩, ⟨(some 6), mv (t 26), none⟩, ⟨(some 7), mv (t 27), none⟩]) (seq (reg [⟨(some 28), ld (t 2) 4 true, none⟩, ⟨(some 29), calle (c (.fn 16 [])) [t 28] [], none⟩, ⟨(some 8), alloc [.int .i64 0, .int .u32 0, .int .u32 0, .sl [] true], none⟩, ⟨none, st (t 8) 4 (t 29), none⟩]) (seq (reg [⟨(some 31), ld (t 8) 4 true, none⟩, ⟨(some 32), mv (t 1), none⟩, ⟨(some 33), calle (c (.fn 49 [])) [t 31, t 32] [], none⟩, ⟨(some 30), mv (t 33), none⟩, ⟨(some 34), ext (t 30) 0, none⟩, ⟨(some 35), ext (t 30) 1, none⟩, ⟨(some 9), mv (t 34), none⟩, ⟨(some 10), mv (t 35), none⟩]) (seq (seq (reg [⟨(some 36), mv (t 9), none⟩, ⟨(some 37), mv (t 6), none⟩, ⟨(some 38), calle (c (.fn 50 [])) [t 36, t 37] [], none⟩, ⟨(some 39), un .not (t 38), none⟩, ⟨(some 40), mv (t 39), none⟩, ⟨(some 41), mv (t 10), some (40, false)⟩, ⟨(some 42), mv (t 7), some (40, false)⟩, ⟨(some 43), bin .neq (t 41) (t 42), some (40, false)⟩, ⟨(some 44), pick (t 40) (c (.bool true)) (t 43), none⟩]) (cond (t 44) (seq (reg [⟨(some 4), mv (c (.bool false)), none⟩]) (ret)) (skip))) (seq (seq (reg [⟨(some 45), ld (t 8) 4 true, none⟩, ⟨(some 46), ld (t 2) 4 true, none⟩, ⟨(some 47), calle (c (.fn 16 [])) [t 46] [(t 8, 4, true)], none⟩, ⟨(some 48), calle (c (.fn 18 [])) [t 45, t 47] [], none⟩, ⟨(some 49), un .not (t 48), none⟩]) (cond (t 49) (seq (reg [⟨(some 4), mv (c (.bool false)), none⟩]) (ret)) (skip))) (seq (reg [⟨(some 11), mv (c (.int .i64 1)), none⟩]) (seq (reg [⟨(some 50), ld (t 8) 4 true, none⟩, ⟨(some 51), mv (t 11), none⟩, ⟨(some 52), calle (c (.fn 19 [])) [t 50, t 51] [], none⟩, ⟨(some 11), mv (t 52), none⟩]) (seq (seq (reg [⟨(some 53), mv (t 11), none⟩, ⟨(some 54), bin .lss (t 53) (c (.int .i64 0)), none⟩, ⟨(some 55), mv (t 54), none⟩, ⟨(some 56), mv (t 9), some (55, false)⟩, ⟨(some 57), mv (t 6), some (55, false)⟩, ⟨(some 58), calle (c (.fn 50 [])) [t 56, t 57] [], some (55, false)⟩, ⟨(some 59), un .not (t 58), some (55, false)⟩, ⟨(some 60), pick (t 55) (c (.bool true)) (t 59), none⟩, ⟨(some 61), mv (t 60), none⟩, ⟨(some 62), mv (t 10), some (61, false)⟩, ⟨(some 63), mv (t 7), some (61, false)⟩, ⟨(some 64), bin .neq (t 62) (t 63), some (61, false)⟩, ⟨(some 65), pick (t 61) (c (.bool true)) (t 64), none⟩]) (cond (t 65) (seq (reg [⟨(some 4), mv (c (.bool false)), none⟩]) (ret)) (skip))) (seq (reg [⟨(some 12), mv (c (.int .i64 1)), none⟩]) (seq (reg [⟨(some 66), mv (t 9), none⟩, ⟨(some 67), mv (t 12), none⟩, ⟨(some 68), calle (c (.fn 51 [])) [t 66, t 67] [], none⟩, ⟨(some 12), mv (t 68), none⟩]) (seq (reg [⟨(some 13), mv (c (.int .i64 1)), none⟩]) (seq (reg [⟨(some 69), mv (t 9), none⟩, ⟨(some 70), mv (t 13), none⟩, ⟨(some 71), calle (c (.fn 52 [])) [t 69, t 70] [], none⟩, ⟨(some 13), mv (t 71), none⟩]) (seq (seq (reg [⟨(some 72), mv (t 13), none⟩, ⟨(some 73), bin .lss (t 72) (c (.int .i64 0)), none⟩]) (cond (t 73) (seq (reg [⟨(some 4), mv (c (.bool false)), none⟩]) (ret)) (skip))) (seq (seq (reg [⟨(some 74), mv (t 13), none⟩, ⟨(some 75), mv (t 12), none⟩, ⟨(some 76), bin .neq (t 74) (t 75), none⟩]) (cond (t 76) (seq (reg [⟨(some 4), mv (c (.bool false)), none⟩]) (ret)) (skip))) (seq (reg [⟨(some 78), ld (t 2) 4 true, none⟩, ⟨(some 79), calle (c (.fn 16 [])) [t 78] [], none⟩, ⟨(some 80), mv (t 1), none⟩, ⟨(some 81), calle (c (.fn 49 [])) [t 79, t 80] [], none⟩, ⟨(some 77), mv (t 81), none⟩, ⟨(some 82), ext (t 77) 0, none⟩, ⟨(some 83), ext (t 77) 1, none⟩, ⟨(some 14), mv (t 82), none⟩, ⟨(some 15), mv (t 83), none⟩]) (seq (seq (reg [⟨(some 84), mv (t 14), none⟩, ⟨(some 85), mv (t 6), none⟩, ⟨(some 86), calle (c (.fn 50 [])) [t 84, t 85] [], none⟩, ⟨(some 87), un .not (t 86), none⟩, ⟨(some 88), mv (t 87), none⟩, ⟨(some 89), mv (t 15), some (88, false)⟩, ⟨(some 90), mv (t 7), some (88, false)⟩, ⟨(some 91), bin .neq (t 89) (t 90), some (88, false)⟩, ⟨(some 92), pick (t 88) (c (.bool true)) (t 91), none⟩]) (cond (t 92) (seq (reg [⟨(some 4), mv (c (.bool false)), none⟩]) (ret)) (skip))) (seq (reg [⟨(some 13), mv (c (.int .i64 1)), none⟩]) (seq (reg [⟨(some 93), mv (t 9), none⟩, ⟨(some 94), mv (t 13), none⟩, ⟨(some 95), calle (c (.fn 52 [])) [t 93, t 94] [], none⟩, ⟨(some 13), mv (t 95), none⟩]) (seq (seq (reg [⟨(some 96), mv (t 13), none⟩, ⟨(some 97), bin .lss (t 96) (c (.int .i64 0)), none⟩]) (cond (t 97) (seq (reg [⟨(some 4), mv (c (.bool false)), none⟩]) (ret)) (skip))) (seq (seq (reg [⟨(some 98), mv (t 13), none⟩, ⟨(some 99), mv (t 12), none⟩, ⟨(some 100), bin .neq (t 98) (t 99), none⟩]) (cond (t 100) (seq (reg [⟨(some 4), mv (c (.bool false)), none⟩]) (ret)) (skip))) (seq (reg [⟨(some 4), mv (c (.bool true)), none⟩]) (ret)))))))))))))))))))))))))
def r_laws_FnExactDensitiesIn : List ARes := [.tmp 4]
theorem k_laws_FnExactDensitiesIn : acLin Go.Proofs.Try.prog 12 2 (inQ [14] [16, 18, 19, 48, 49, 50, 51, 52]) [⟨false, none, [], [], none⟩, ⟨false, none, [], [], none⟩, ⟨false, none, [], [], none⟩, ⟨false, none, [], [], none⟩, ⟨false, none, [], [], none⟩, ⟨false, none, [], [], none⟩, ⟨false, none, [], [], none⟩, ⟨false, none, [], [], none⟩, ⟨false, none, [], [], none⟩, ⟨false, none, [], [], none⟩, ⟨false, none, [], [], none⟩, ⟨false, none, [], [], none⟩, ⟨false, some [0, 1, 2, 3, 4], [(2, [(t 8, 4, true)])], [], none⟩] = some (c_laws_FnExactDensitiesIn, r_laws_FnExactDensitiesIn) := by kernel_rfl
end Go.Proofs.YtkgodhdpcomjbaaAi
end

section
/- Contracts: all least graphs of a size. -/
namespace Go.Proofs.YtkgodhdpcomjbaaAi
open Go Go.RowKit
set_option linter.unusedVariables false
set_option linter.unusedSimpArgs false
set_option maxRecDepth 20000

def leastUp (n : Nat) : Nat → List Gr
  | 0 => []
  | k + 1 => if leastW n (k : Int) = true then leastUp n k ++ [⟨n, k⟩] else leastUp n k
theorem leastUp_len (n : Nat) : ∀ k, (leastUp n k).length ≤ k
  | 0 => Nat.le_refl _
  | k + 1 => by
    have := leastUp_len n k
    rw [leastUp]
    split
    · rw [List.length_append, List.length_singleton]; omega
    · omega
theorem least0 : ∀ n, n ≤ 5 → leastW n 0 = true := by
  have : ∀ n, n < 6 → leastW n 0 = true := by decide +kernel
  exact fun n h => this n (by omega)
theorem leastUp_one {n : Nat} (hn : n ≤ 5) : leastUp n 1 = [⟨n, 0⟩] := by
  have : leastUp n 1 = if leastW n ((0 : Nat) : Int) = true then leastUp n 0 ++ [⟨n, (0 : Nat)⟩] else leastUp n 0 := rfl
  rw [this, if_pos (show leastW n ((0 : Nat) : Int) = true from least0 n hn)]; rfl
theorem leastUp_pos {n : Nat} (hn : n ≤ 5) : ∀ k, 0 < (leastUp n (k + 1)).length
  | 0 => by rw [leastUp_one hn]; simp
  | k + 1 => by
    have := leastUp_pos hn k
    rw [leastUp]
    split
    · rw [List.length_append]; omega
    · exact this
theorem leastUp_mem {n : Nat} : ∀ {k : Nat} {x : Gr}, x ∈ leastUp n k → x.n = n ∧ 0 ≤ x.e ∧ x.e < k
  | 0, x, h => by cases h
  | k + 1, x, h => by
    rw [leastUp] at h
    split at h
    · rcases List.mem_append.1 h with h | h
      · have := leastUp_mem h; omega
      · rw [List.mem_singleton] at h; subst h; exact ⟨rfl, by simp only; omega, by simp only; omega⟩
    · have := leastUp_mem h; omega
theorem leastUp_snoc (n k : Nat) (h : leastW n (k : Int) = true) : leastUp n (k + 1) = leastUp n k ++ [⟨n, k⟩] := by rw [leastUp, if_pos h]
theorem leastUp_same (n k : Nat) (h : leastW n (k : Int) = false) : leastUp n (k + 1) = leastUp n k := by rw [leastUp, if_neg (by simp [h])]
def leastG (n : Nat) : List Gr := leastUp n (2 ^ (pairsI n).toNat)
theorem pairs10 {n : Nat} (hn : n ≤ 5) : ∃ b : Nat, pairsI n = b ∧ b ≤ 10 ∧ ∃ N : Nat, N = 2 ^ b ∧ 1 ≤ N ∧ N ≤ 1024 := by
  have : ∀ n, n < 6 → ∃ b : Nat, b < 11 ∧ pairsI (n : Nat) = b := by decide
  obtain ⟨b, hb, he⟩ := this n (by omega)
  refine ⟨b, he, by omega, 2 ^ b, rfl, Nat.one_le_two_pow, ?_⟩
  calc 2 ^ b ≤ 2 ^ 10 := Nat.pow_le_pow_right (by omega) (by omega)
    _ = 1024 := rfl
theorem grs_snoc (L : List Gr) (n e : Int) : flatA (grsA L) ++ [.int .i64 n, .int .u32 e] = flatA (grsA (L ++ [⟨n, e⟩])) := by
  rw [flatA_append]; rfl
def leastR (n : Nat) : AV × List (Option (List AV)) := (.ref 0 2 0 (leastG n).length .full, [some (flatA (grsA (leastG n)))])

noncomputable def sp_keepG : List AV → Option (AV) := pf (ι := (Int) × (Int)) (α := AV) (fun ⟨n, e⟩ => True) (fun ⟨n, e⟩ => [.agg [.int .i64 n, .int .u32 e]]) (fun ⟨n, e⟩ => .bool true)
theorem sp_keepG_eq (n e : Int) : sp_keepG [.agg [.int .i64 n, .int .u32 e]] = some (.bool true) := by
  unfold sp_keepG
  exact pf_eq (ι := (Int) × (Int)) (α := AV) (n, e) trivial (by rintro ⟨n', e'⟩ _ e; simp_all [Int.natCast_inj])
attribute [simp] sp_keepG_eq
theorem q_impl_freeGraphs_1 : QP PP 165 sp_keepG := by
  refine QP_pf (fun i h => ?_) fun i h => ?_
  · obtain ⟨n, e⟩ := i; exact ⟨by first | rfl | simp, by first | rfl | simp⟩
  obtain ⟨n, e⟩ := i
  replace h : True := h
  refine P_code Quiet.nil hmix k_impl_freeGraphs_1 rfl ?_ ?_
  · first | rfl | simp
  show wpc 0 PP _ c_impl_freeGraphs_1 (initSt [.agg [.int .i64 n, .int .u32 e]] .nil) (endP r_impl_freeGraphs_1 (.bool true))
  simp -dsimp -implicitDefEqProofs [c_impl_freeGraphs_1, r_impl_freeGraphs_1]
def leSt (n N : Nat) : Nat → St
  | 0 => ⟨tl [(0, .int .i64 n), (1, .int .i64 0), (2, .fn 165 []), (7, .sl [] true), (13, .int .u32 N), (14, .int .u32 0)], ⟨[]⟩⟩
  | k + 1 => ⟨tl [(0, .int .i64 n), (1, .int .i64 0), (2, .fn 165 []), (7, .ref 0 2 0 (leastUp n (k + 1)).length .full), (13, .int .u32 N), (14, .int .u32 ((k : Int) + 1))], ⟨[some (flatA (grsA (leastUp n (k + 1))))]⟩⟩
noncomputable def sp_leastsP : List AV → Option (AV × List (Option (List AV))) := pf (ι := (Nat)) (α := AV × List (Option (List AV))) (fun n => n ≤ 5) (fun n => [.int .i64 n, .int .i64 0, .fn 165 []]) (fun n => leastR n)
theorem sp_leastsP_eq (n : Nat) (h : n ≤ 5) : sp_leastsP [.int .i64 n, .int .i64 0, .fn 165 []] = some (leastR n) := by
  unfold sp_leastsP
  exact pf_eq (ι := (Nat)) (α := AV × List (Option (List AV))) n h (by rintro n' _ e; simp_all [Int.natCast_inj])
theorem n_impl_leasts : QN PP 164 sp_leastsP := by
  refine QN_pf (fun n h => ?_) fun n h => ?_
  · first | rfl | simp
  replace h : n ≤ 5 := h
  show T PP 164 [.int .i64 n, .int .i64 0, .fn 165 []] .nil fun r' A' => r' = ((leastR n : AV × List (Option (List AV)))).1 ∧ A' = ⟨((leastR n : AV × List (Option (List AV)))).2⟩
  obtain ⟨b, hb, hb10, N, hN, hN1, hN2⟩ := pairs10 h
  have hp := sp_pairs_eq n (by omega)
  rw [hb] at hp
  have hb0 : ¬ ((b : Int) < 0) := by omega
  have hm : min b 32 = b := by omega
  have hNi : (2 : Int) ^ b = N := by rw [hN]; simp
  have hwN : IntKind.u32.wrap (N : Int) = N := wrap32 (by omega) (by omega)
  have hG : leastG n = leastUp n N := by unfold leastG; rw [hb, hN]; rfl
  unfold leastR
  rw [hG]
  refine H_code (Quiet.q1 q_impl_pairs (Quiet.q1 q_impl_Graph_isLeast Quiet.nil)) hmix k_impl_leasts rfl (fun _ => 0) (by simp [AHeap.n, AHeap.nil]) (by intro b hb; simp [AHeap.n, AHeap.nil] at hb <;> subst hb <;> rfl) (by rfl) (by first | rfl | simp) ?_
  simp -dsimp -implicitDefEqProofs [c_impl_leasts, r_impl_leasts, hp, hb0, hm, IntKind.bits, hNi, hwN]
  refine wpLoop_st (leSt n N) (fun i => i ≤ N) (fun i => N - i) 0 (by omega) (Sub.keep (by simp) (by simp [hsub]) (by simp)) ?_
  intro k hk
  have hkeep : ∀ (x y : Int) (A : AHeap), T PP 165 [.agg [.int .i64 x, .int .u32 y]] A fun r A' => r = .bool true ∧ A' = A := fun x y A => q_impl_freeGraphs_1.toR _ _ _ _ (by
    have := sp_keepG_eq x y
    simp [spR, seeL_cons, seeL_nil, seeV_int, seeV_agg, this, AV.flat])
  cases k with
  | zero =>
    simp -dsimp -implicitDefEqProofs [leSt]
    refine brW_of (fun h => ?_) (fun h => ?_) <;> simp only [decide_eq_true_eq, decide_eq_false_iff_not] at h
    · have hl0 : sp_least [.agg [.int .i64 n, .int .u32 0], .int .i64 0] = some (.bool true) := by
        rw [← least0 n ‹_›]; exact sp_least_eq n 0 0 ⟨⟨‹_›, Nat.zero_le _⟩, by omega⟩
      have w1 : IntKind.u32.wrap 1 = 1 := rfl
      have l1 : 1 * 17 ≤ mostBytes := by decide
      simp -dsimp -implicitDefEqProofs
      refine (hkeep _ _ _).mono ?_
      rintro r A' ⟨rfl, rfl⟩
      simp -dsimp -implicitDefEqProofs [hl0, w1, l1]
      exact .mk 1 (by omega) (by omega) (Sub.mk' (fun b => if b = 0 then 2 else b) (by simp) (by intro b hb; simp at hb <;> omega) (by rfl) (by simp [hsub, leSt, leastUp_one ‹_›, flatA_cons]) (by simp [leSt, leastUp_one ‹_›]))
    · omega
  | succ k =>
    have hlen := leastUp_len n (k + 1)
    have hpos := leastUp_pos ‹n ≤ 5› k
    have hsn := leastUp_snoc n (k + 1)
    have hsa := leastUp_same n (k + 1)
    simp -dsimp -implicitDefEqProofs [leSt]
    refine brW_of (fun h => ?_) (fun h => ?_) <;> simp only [decide_eq_true_eq, decide_eq_false_iff_not] at h
    · have w1 : IntKind.u32.wrap ((k : Int) + 1 + 1) = (k : Int) + 1 + 1 := wrap32 (by omega) (by omega)
      have hl0 : sp_least [.agg [.int .i64 n, .int .u32 ((k : Int) + 1)], .int .i64 0] = some (.bool (leastW n ((k : Int) + 1))) := sp_least_eq n 0 ((k : Int) + 1) ⟨⟨‹_›, Nat.zero_le _⟩, by omega⟩
      simp -dsimp -implicitDefEqProofs
      refine (hkeep _ _ _).mono ?_
      rintro r A' ⟨rfl, rfl⟩
      cases hv : leastW n ((k : Int) + 1) with
      | true =>
        have hsn := hsn hv
        have l1 : ((leastUp n (k + 1)).length + 1) * 17 ≤ mostBytes := by simp only [mostBytes]; omega
        have l2 : ¬ (((leastUp n (k + 1)).length + 1) * 2 ≤ (leastUp n (k + 1)).length * 2) := by omega
        have l3 : (flatA (grsA (leastUp n (k + 1)))).take ((leastUp n (k + 1)).length * 2) = flatA (grsA (leastUp n (k + 1))) := List.take_of_length_le (by simp)
        have l4 := grs_snoc (leastUp n (k + 1)) n ((k : Int) + 1)
        have l5 : (leastUp n (k + 1 + 1)).length = (leastUp n (k + 1)).length + 1 := by rw [hsn]; simp
        have l6 : leastUp n (k + 1) ++ [⟨(n : Int), (k : Int) + 1⟩] = leastUp n (k + 1 + 1) := hsn.symm
        generalize leastUp n (k + 1) = L at *
        generalize hL2 : leastUp n (k + 1 + 1) = L2 at *
        simp -dsimp -implicitDefEqProofs [hl0, hv, w1, l1, l2, l3, l4, l6]
        exact .mk (k + 2) (by omega) (by omega) (Sub.mk' (fun b => if b = 0 then 3 else b) (by simp) (by intro b hb; simp at hb <;> omega) (by rfl) (by simp [hsub, leSt, hL2, l6]) (by simp [leSt, hL2, l5, w1]))
      | false =>
        have hsa := hsa hv
        simp -dsimp -implicitDefEqProofs [hl0, hv, w1]
        exact .mk (k + 2) (by omega) (by omega) (Sub.keep (by simp [leSt]) (by simp [hsub, leSt, hsa]) (by simp [leSt, hsa, w1]))
    · have : k + 1 = N := by omega
      subst this
      simp -dsimp -implicitDefEqProofs [hsub]
def lsSt (n : Nat) : Nat → St
  | 0 => ⟨tl [(0, .int .i64 n), (3, .sl [] true), (4, .int .i64 0)], ⟨[]⟩⟩
  | k + 1 => ⟨tl [(0, .int .i64 n), (3, .ref 0 2 0 (leastUp n (k + 1)).length .full), (4, .int .i64 ((k : Int) + 1))], ⟨[some (flatA (grsA (leastUp n (k + 1))))]⟩⟩
noncomputable def sp_allP : List AV → Option (AV × List (Option (List AV))) := pf (ι := (Nat)) (α := AV × List (Option (List AV))) (fun n => n ≤ 5) (fun n => [.int .i64 n]) (fun n => leastR n)
theorem sp_allP_eq (n : Nat) (h : n ≤ 5) : sp_allP [.int .i64 n] = some (leastR n) := by
  unfold sp_allP
  exact pf_eq (ι := (Nat)) (α := AV × List (Option (List AV))) n h (by rintro n' _ e; simp_all [Int.natCast_inj])
theorem n_spec_l01All : QN PP 122 sp_allP := by
  refine QN_pf (fun n h => ?_) fun n h => ?_
  · first | rfl | simp
  replace h : n ≤ 5 := h
  show T PP 122 [.int .i64 n] .nil fun r' A' => r' = ((leastR n : AV × List (Option (List AV)))).1 ∧ A' = ⟨((leastR n : AV × List (Option (List AV)))).2⟩
  obtain ⟨b, hb, hb10, N, hN, hN1, hN2⟩ := pairs10 h
  have hp := sp_pairs_eq n (by omega)
  rw [hb] at hp
  have hb0 : ¬ ((b : Int) < 0) := by omega
  have hm : min b 64 = b := by omega
  have hNi : (2 : Int) ^ b = N := by rw [hN]; simp
  have hwN : IntKind.i64.wrap (N : Int) = N := wrapI64 (by omega) (by omega)
  have hwb : IntKind.u64.wrap (b : Int) = b := wrapU64 (by omega) (by omega)
  have hG : leastG n = leastUp n N := by unfold leastG; rw [hb, hN]; rfl
  unfold leastR
  rw [hG]
  refine H_code (Quiet.q1 q_spec_l01Bits (Quiet.q1 q_spec_l01IsLeast Quiet.nil)) hmix k_spec_l01All rfl (fun _ => 0) (by simp [AHeap.n, AHeap.nil]) (by intro b hb; simp [AHeap.n, AHeap.nil] at hb <;> subst hb <;> rfl) (by rfl) (by first | rfl | simp) ?_
  simp -dsimp -implicitDefEqProofs [c_spec_l01All, r_spec_l01All]
  refine wpLoop_st (lsSt n) (fun i => i ≤ N) (fun i => N - i) 0 (by omega) (Sub.keep (by simp) (by simp [hsub]) (by simp)) ?_
  intro k hk
  cases k with
  | zero =>
    simp -dsimp -implicitDefEqProofs [lsSt, hp, hb0, hm, IntKind.bits, hNi, hwN, hwb]
    refine brW_of (fun h => ?_) (fun h => ?_) <;> simp only [decide_eq_true_eq, decide_eq_false_iff_not] at h
    · have hl0 : sp_leastS [.agg [.int .i64 n, .int .u32 0]] = some (.bool true) := by
        rw [← least0 n ‹_›]; exact sp_leastS_eq n 0 ⟨‹_›, by omega⟩
      have w1 : IntKind.i64.wrap 1 = 1 := rfl
      have w0 : IntKind.u32.wrap 0 = 0 := rfl
      have l1 : 1 * 17 ≤ mostBytes := by decide
      simp -dsimp -implicitDefEqProofs [hl0, w0, w1, l1]
      exact .mk 1 (by omega) (by omega) (Sub.mk' (fun b => if b = 0 then 2 else b) (by simp) (by intro b hb; simp at hb <;> omega) (by rfl) (by simp [hsub, lsSt, leastUp_one ‹_›, flatA_cons]) (by simp [lsSt, leastUp_one ‹_›]))
    · omega
  | succ k =>
    have hlen := leastUp_len n (k + 1)
    have hpos := leastUp_pos ‹n ≤ 5› k
    have hsn := leastUp_snoc n (k + 1)
    have hsa := leastUp_same n (k + 1)
    simp -dsimp -implicitDefEqProofs [lsSt, hp, hb0, hm, IntKind.bits, hNi, hwN, hwb]
    refine brW_of (fun h => ?_) (fun h => ?_) <;> simp only [decide_eq_true_eq, decide_eq_false_iff_not] at h
    · have w1 : IntKind.i64.wrap ((k : Int) + 1 + 1) = (k : Int) + 1 + 1 := wrapI64 (by omega) (by omega)
      have w0 : IntKind.u32.wrap ((k : Int) + 1) = (k : Int) + 1 := wrap32 (by omega) (by omega)
      have hl0 : sp_leastS [.agg [.int .i64 n, .int .u32 ((k : Int) + 1)]] = some (.bool (leastW n ((k : Int) + 1))) := sp_leastS_eq n ((k : Int) + 1) ⟨‹_›, by omega⟩
      cases hv : leastW n ((k : Int) + 1) with
      | true =>
        have hsn := hsn hv
        have l1 : ((leastUp n (k + 1)).length + 1) * 17 ≤ mostBytes := by simp only [mostBytes]; omega
        have l2 : ¬ (((leastUp n (k + 1)).length + 1) * 2 ≤ (leastUp n (k + 1)).length * 2) := by omega
        have l3 : (flatA (grsA (leastUp n (k + 1)))).take ((leastUp n (k + 1)).length * 2) = flatA (grsA (leastUp n (k + 1))) := List.take_of_length_le (by simp)
        have l4 := grs_snoc (leastUp n (k + 1)) n ((k : Int) + 1)
        have l5 : (leastUp n (k + 1 + 1)).length = (leastUp n (k + 1)).length + 1 := by rw [hsn]; simp
        have l6 : leastUp n (k + 1) ++ [⟨(n : Int), (k : Int) + 1⟩] = leastUp n (k + 1 + 1) := hsn.symm
        generalize leastUp n (k + 1) = L at *
        generalize hL2 : leastUp n (k + 1 + 1) = L2 at *
        simp -dsimp -implicitDefEqProofs [hl0, hv, w0, w1, l1, l2, l3, l4, l6]
        exact .mk (k + 2) (by omega) (by omega) (Sub.mk' (fun b => if b = 0 then 3 else b) (by simp) (by intro b hb; simp at hb <;> omega) (by rfl) (by simp [hsub, lsSt, hL2, l6]) (by simp [lsSt, hL2, l5, w1]))
      | false =>
        have hsa := hsa hv
        simp -dsimp -implicitDefEqProofs [hl0, hv, w0, w1]
        exact .mk (k + 2) (by omega) (by omega) (Sub.keep (by simp [lsSt]) (by simp [hsub, lsSt, hsa]) (by simp [lsSt, hsa, w1]))
    · have : k + 1 = N := by omega
      subst this
      simp -dsimp -implicitDefEqProofs [hsub]

/-! ### free of nothing -/
theorem getE_gr0 (l : List Gr) (i : Nat) (h : i < l.length) (h2 : i * 2 < (flatA (grsA l)).length) : (flatA (grsA l))[i * 2] = .int .i64 l[i].n := by
  have := get_gr0 l i h
  rw [List.getElem?_eq_getElem h2] at this
  exact Option.some.inj this
theorem getE_gr1 (l : List Gr) (i : Nat) (h : i < l.length) (h2 : i * 2 + 1 < (flatA (grsA l)).length) : (flatA (grsA l))[i * 2 + 1] = .int .u32 l[i].e := by
  have := get_gr1 l i h
  rw [List.getElem?_eq_getElem h2] at this
  exact Option.some.inj this
@[simp] theorem seeV_mv (A : AHeap) (f : FuncId) (cs : List AV) : seeV A (.mv f cs) = some (.mv f cs) := rfl
noncomputable def sp_idxNil : List AV → Option (AV) := pf (ι := (Int) × (Int)) (α := AV) (fun ⟨n, e⟩ => True) (fun ⟨n, e⟩ => [.sl [] false, .mv 182 [.agg [.int .i64 n, .int .u32 e]]]) (fun ⟨n, e⟩ => .int .i64 (-1))
theorem sp_idxNil_eq (n e : Int) : sp_idxNil [.sl [] false, .mv 182 [.agg [.int .i64 n, .int .u32 e]]] = some (.int .i64 (-1)) := by
  unfold sp_idxNil
  exact pf_eq (ι := (Int) × (Int)) (α := AV) (n, e) trivial (by rintro ⟨n', e'⟩ _ e; simp_all [Int.natCast_inj])
attribute [simp] sp_idxNil_eq
theorem q_slices_IndexFunc_Simpl_Graph_impl_Graph : QP PP 155 sp_idxNil := by
  refine QP_pf (fun i h => ?_) fun i h => ?_
  · obtain ⟨n, e⟩ := i; exact ⟨by first | rfl | simp, by first | rfl | simp⟩
  obtain ⟨n, e⟩ := i
  replace h : True := h
  refine P_code Quiet.nil hmix k_slices_IndexFunc_Simpl_Graph_impl_Graph rfl ?_ ?_
  · first | rfl | simp
  show wpc 0 PP _ c_slices_IndexFunc_Simpl_Graph_impl_Graph (initSt [.sl [] false, .mv 182 [.agg [.int .i64 n, .int .u32 e]]] .nil) (endP r_slices_IndexFunc_Simpl_Graph_impl_Graph (.int .i64 (-1)))
  simp -dsimp -implicitDefEqProofs [c_slices_IndexFunc_Simpl_Graph_impl_Graph, r_slices_IndexFunc_Simpl_Graph_impl_Graph]
  refine wpLoop_st (fun (_ : Unit) => ⟨tl [(0, .sl [] false), (1, .mv 182 [.agg [.int .i64 n, .int .u32 e]]), (7, .int .i64 0), (8, .int .i64 0)], ⟨[]⟩⟩) (fun _ => True) (fun _ => 0) () trivial (Sub.keep (by simp) (by simp [hsub]) (by simp)) ?_
  intro _ _
  simp -dsimp -implicitDefEqProofs
noncomputable def sp_anyNil : List AV → Option (AV) := pf (ι := (Int) × (Int)) (α := AV) (fun ⟨n, e⟩ => True) (fun ⟨n, e⟩ => [.sl [] false, .mv 182 [.agg [.int .i64 n, .int .u32 e]]]) (fun ⟨n, e⟩ => .bool false)
theorem sp_anyNil_eq (n e : Int) : sp_anyNil [.sl [] false, .mv 182 [.agg [.int .i64 n, .int .u32 e]]] = some (.bool false) := by
  unfold sp_anyNil
  exact pf_eq (ι := (Int) × (Int)) (α := AV) (n, e) trivial (by rintro ⟨n', e'⟩ _ e; simp_all [Int.natCast_inj])
attribute [simp] sp_anyNil_eq
theorem q_slices_ContainsFunc_Simpl_Graph_impl_Graph : QP PP 99 sp_anyNil := by
  refine QP_pf (fun i h => ?_) fun i h => ?_
  · obtain ⟨n, e⟩ := i; exact ⟨by first | rfl | simp, by first | rfl | simp⟩
  obtain ⟨n, e⟩ := i
  replace h : True := h
  refine P_code (Quiet.e1 q_slices_IndexFunc_Simpl_Graph_impl_Graph.toR Quiet.nil) hmix k_slices_ContainsFunc_Simpl_Graph_impl_Graph rfl ?_ ?_
  · first | rfl | simp
  show wpc 0 PP _ c_slices_ContainsFunc_Simpl_Graph_impl_Graph (initSt [.sl [] false, .mv 182 [.agg [.int .i64 n, .int .u32 e]]] .nil) (endP r_slices_ContainsFunc_Simpl_Graph_impl_Graph (.bool false))
  simp -dsimp -implicitDefEqProofs [c_slices_ContainsFunc_Simpl_Graph_impl_Graph, r_slices_ContainsFunc_Simpl_Graph_impl_Graph, sp_idxNil_eq n e]
noncomputable def sp_freeN : List AV → Option (AV) := pf (ι := (Int) × (Int)) (α := AV) (fun ⟨n, e⟩ => True) (fun ⟨n, e⟩ => [.agg [.int .i64 n, .int .u32 e], .sl [] false]) (fun ⟨n, e⟩ => .bool true)
theorem sp_freeN_eq (n e : Int) : sp_freeN [.agg [.int .i64 n, .int .u32 e], .sl [] false] = some (.bool true) := by
  unfold sp_freeN
  exact pf_eq (ι := (Int) × (Int)) (α := AV) (n, e) trivial (by rintro ⟨n', e'⟩ _ e; simp_all [Int.natCast_inj])
attribute [simp] sp_freeN_eq
theorem q_impl_Graph_free : QP PP 167 sp_freeN := by
  refine QP_pf (fun i h => ?_) fun i h => ?_
  · obtain ⟨n, e⟩ := i; exact ⟨by first | rfl | simp, by first | rfl | simp⟩
  obtain ⟨n, e⟩ := i
  replace h : True := h
  refine P_code (Quiet.e1 q_slices_ContainsFunc_Simpl_Graph_impl_Graph.toR Quiet.nil) hmix k_impl_Graph_free rfl ?_ ?_
  · first | rfl | simp
  show wpc 0 PP _ c_impl_Graph_free (initSt [.agg [.int .i64 n, .int .u32 e], .sl [] false] .nil) (endP r_impl_Graph_free (.bool true))
  simp -dsimp -implicitDefEqProofs [c_impl_Graph_free, r_impl_Graph_free, sp_anyNil_eq n e, valOf, leafOf]
noncomputable def sp_dropN : List (Option (List AV)) → List AV → Option (AV × List (Option (List AV))) := pv (pf (ι := (Int) × (Int)) (α := AV × List (Option (List AV))) (fun ⟨n, e⟩ => True) (fun i => .agg (((fun ⟨n, e⟩ => [some [.sl [] false]] : (Int) × (Int) → List (Option (List AV))) i).map enO) :: (fun ⟨n, e⟩ => [.agg [.int .i64 n, .int .u32 e], .ptr 0 0] : (Int) × (Int) → List AV) i) (fun ⟨n, e⟩ => (.bool false, [some [.sl [] false]])))
theorem sp_dropN_eq (n e : Int) : sp_dropN [some [.sl [] false]] [.agg [.int .i64 n, .int .u32 e], .ptr 0 0] = some (.bool false, [some [.sl [] false]]) := by
  unfold sp_dropN pv
  exact pf_eq (ι := (Int) × (Int)) (α := AV × List (Option (List AV))) (n, e) trivial (by rintro ⟨n', e'⟩ _ e; simp_all [enO, Int.natCast_inj])
attribute [simp] sp_dropN_eq
theorem v_impl_freeGraphs_2 : QV PP 166 sp_dropN := by
  refine QV_pf fun i h => ?_
  obtain ⟨n, e⟩ := i
  replace h : True := h
  refine H_code (Quiet.q1 q_impl_Graph_free Quiet.nil) hmix k_impl_freeGraphs_2 rfl (fun b => b) (by simp [AHeap.n]) (fun _ _ => rfl) (by rfl) (by first | rfl | simp) ?_
  show wpc _ PP _ c_impl_freeGraphs_2 (initSt [.agg [.int .i64 n, .int .u32 e], .ptr 0 0] ⟨[some [.sl [] false]]⟩) (endH (fun b => b) r_impl_freeGraphs_2 (.bool false) [some [.sl [] false]])
  simp -dsimp -implicitDefEqProofs [c_impl_freeGraphs_2, r_impl_freeGraphs_2, sp_freeN_eq n e, hsub]
noncomputable def sp_idxNo : List (Option (List AV)) → List AV → Option (AV × List (Option (List AV))) := pv (pf (ι := (List Gr)) (α := AV × List (Option (List AV))) (fun L => L.length ≤ 1048576) (fun i => .agg (((fun L => [some (flatA (grsA L)), some [.sl [] false]] : (List Gr) → List (Option (List AV))) i).map enO) :: (fun L => [.ref 0 2 0 L.length .full, .fn 166 [.ptr 1 0]] : (List Gr) → List AV) i) (fun L => (.int .i64 (-1), [some (flatA (grsA L)), some [.sl [] false]])))
theorem sp_idxNo_eq (L : List Gr) (h : L.length ≤ 1048576) : sp_idxNo [some (flatA (grsA L)), some [.sl [] false]] [.ref 0 2 0 L.length .full, .fn 166 [.ptr 1 0]] = some (.int .i64 (-1), [some (flatA (grsA L)), some [.sl [] false]]) := by
  unfold sp_idxNo pv
  exact pf_eq (ι := (List Gr)) (α := AV × List (Option (List AV))) L h (by rintro L' _ e; simp_all [enO, Int.natCast_inj])
theorem v_slices_IndexFunc_Simpl_Graph_impl_Graph : QV PP 155 sp_idxNo := by
  refine QV_pf fun L h => ?_
  replace h : L.length ≤ 1048576 := h
  refine H_code Quiet.nil hmix k_slices_IndexFunc_Simpl_Graph_impl_Graph rfl (fun b => b) (by simp [AHeap.n]) (fun _ _ => rfl) (by rfl) (by first | rfl | simp) ?_
  show wpc _ PP _ c_slices_IndexFunc_Simpl_Graph_impl_Graph (initSt [.ref 0 2 0 L.length .full, .fn 166 [.ptr 1 0]] ⟨[some (flatA (grsA L)), some [.sl [] false]]⟩) (endH (fun b => b) r_slices_IndexFunc_Simpl_Graph_impl_Graph (.int .i64 (-1)) [some (flatA (grsA L)), some [.sl [] false]])
  simp -dsimp -implicitDefEqProofs [c_slices_IndexFunc_Simpl_Graph_impl_Graph, r_slices_IndexFunc_Simpl_Graph_impl_Graph]
  refine wpLoop_st (fun (i : Nat) => ⟨tl [(0, .ref 0 2 0 L.length .full), (1, .fn 166 [.ptr 1 0]), (7, .int .i64 L.length), (8, .int .i64 i)], ⟨[some (flatA (grsA L)), some [.sl [] false]]⟩⟩) (fun i => i ≤ L.length) (fun i => L.length - i) 0 (by omega) (Sub.keep (by simp) (by simp [hsub]) (by simp)) ?_
  intro i hi
  simp -dsimp -implicitDefEqProofs
  refine brW_of (fun h => ?_) (fun h => ?_) <;> simp only [decide_eq_true_eq, decide_eq_false_iff_not] at h
  · have hi' : i < L.length := by omega
    have hw := wrapNat (i := i) (by omega)
    have g0 := getE_gr0 L i hi'
    have g1 := getE_gr1 L i hi'
    have g2 := get_gr0 L i hi'
    have g3 := get_gr1 L i hi'
    simp -dsimp -implicitDefEqProofs [hi', hw, g0, g1, g2, g3]
    refine T.mono (v_impl_freeGraphs_2.toE _ _ (.bool false) ⟨[some (flatA (grsA L)), some [.sl [] false]]⟩ (by
      have := sp_dropN_eq L[i].n L[i].e
      simp [this])) ?_
    rintro r A' ⟨rfl, rfl⟩
    simp -dsimp -implicitDefEqProofs [hw]
    exact .mk (i + 1) (by omega) (by omega) (Sub.keep (by simp) (by simp [hsub]) (by simp [hw]))
  · have : i = L.length := by omega
    subst this
    simp -dsimp -implicitDefEqProofs [hsub]
noncomputable def sp_delNo : List (Option (List AV)) → List AV → Option (AV × List (Option (List AV))) := pv (pf (ι := (List Gr)) (α := AV × List (Option (List AV))) (fun L => L.length ≤ 1048576) (fun i => .agg (((fun L => [some (flatA (grsA L)), some [.sl [] false]] : (List Gr) → List (Option (List AV))) i).map enO) :: (fun L => [.ref 0 2 0 L.length .full, .fn 166 [.ptr 1 0]] : (List Gr) → List AV) i) (fun L => (.ref 0 2 0 L.length .full, [some (flatA (grsA L)), some [.sl [] false]])))
theorem sp_delNo_eq (L : List Gr) (h : L.length ≤ 1048576) : sp_delNo [some (flatA (grsA L)), some [.sl [] false]] [.ref 0 2 0 L.length .full, .fn 166 [.ptr 1 0]] = some (.ref 0 2 0 L.length .full, [some (flatA (grsA L)), some [.sl [] false]]) := by
  unfold sp_delNo pv
  exact pf_eq (ι := (List Gr)) (α := AV × List (Option (List AV))) L h (by rintro L' _ e; simp_all [enO, Int.natCast_inj])
theorem v_slices_DeleteFunc_Simpl_Graph_impl_Graph : QV PP 163 sp_delNo := by
  refine QV_pf fun L h => ?_
  replace h : L.length ≤ 1048576 := h
  refine H_code (Quiet.e1 v_slices_IndexFunc_Simpl_Graph_impl_Graph.toE Quiet.nil) hmix k_slices_DeleteFunc_Simpl_Graph_impl_Graph rfl (fun b => b) (by simp [AHeap.n]) (fun _ _ => rfl) (by rfl) (by first | rfl | simp) ?_
  show wpc _ PP _ c_slices_DeleteFunc_Simpl_Graph_impl_Graph (initSt [.ref 0 2 0 L.length .full, .fn 166 [.ptr 1 0]] ⟨[some (flatA (grsA L)), some [.sl [] false]]⟩) (endH (fun b => b) r_slices_DeleteFunc_Simpl_Graph_impl_Graph (.ref 0 2 0 L.length .full) [some (flatA (grsA L)), some [.sl [] false]])
  simp -dsimp -implicitDefEqProofs [c_slices_DeleteFunc_Simpl_Graph_impl_Graph, r_slices_DeleteFunc_Simpl_Graph_impl_Graph, sp_idxNo_eq L h, hsub]
noncomputable def sp_freeG : List AV → Option (AV × List (Option (List AV))) := pf (ι := (Nat)) (α := AV × List (Option (List AV))) (fun n => n ≤ 5) (fun n => [.int .i64 n, .sl [] false]) (fun n => leastR n)
theorem sp_freeG_eq (n : Nat) (h : n ≤ 5) : sp_freeG [.int .i64 n, .sl [] false] = some (leastR n) := by
  unfold sp_freeG
  exact pf_eq (ι := (Nat)) (α := AV × List (Option (List AV))) n h (by rintro n' _ e; simp_all [Int.natCast_inj])
theorem n_impl_freeGraphs : QN PP 123 sp_freeG := by
  refine QN_pf (fun n h => ?_) fun n h => ?_
  · first | rfl | simp
  replace h : n ≤ 5 := h
  show T PP 123 [.int .i64 n, .sl [] false] .nil fun r' A' => r' = ((leastR n : AV × List (Option (List AV)))).1 ∧ A' = ⟨((leastR n : AV × List (Option (List AV)))).2⟩
  have h1 := sp_leastsP_eq n h
  have h2 := sp_delNo_eq (leastG n) (by
    obtain ⟨b, hb, hb10, N, hN, hN1, hN2⟩ := pairs10 h
    have := leastUp_len n N
    have hG : leastG n = leastUp n N := by unfold leastG; rw [hb, hN]; rfl
    rw [hG]; omega)
  unfold leastR at h1 ⊢
  refine H_code (Quiet.e1 n_impl_leasts.toE (Quiet.e1 v_slices_DeleteFunc_Simpl_Graph_impl_Graph.toE Quiet.nil)) hmix k_impl_freeGraphs rfl (fun _ => 1) (by simp [AHeap.n, AHeap.nil]) (by intro b hb; simp [AHeap.n, AHeap.nil] at hb <;> subst hb <;> rfl) (by rfl) (by first | rfl | simp) ?_
  simp -dsimp -implicitDefEqProofs [c_impl_freeGraphs, r_impl_freeGraphs, h1, h2, hsub]
end Go.Proofs.YtkgodhdpcomjbaaAi
end

section
/- Contracts: densities of all least graphs of a size; the law of DensitiesIn. -/
namespace Go.Proofs.YtkgodhdpcomjbaaAi
open Go Go.RowKit
set_option linter.unusedVariables false
set_option linter.unusedSimpArgs false
set_option maxRecDepth 20000

theorem leastG_pos {n : Nat} (hn : n ≤ 5) : 0 < (leastG n).length := by
  obtain ⟨b, hb, hb10, N, hN, hN1, hN2⟩ := pairs10 hn
  obtain ⟨M, rfl⟩ : ∃ M, N = M + 1 := ⟨N - 1, by omega⟩
  have hG : leastG n = leastUp n (M + 1) := by unfold leastG; rw [hb, hN]; rfl
  rw [hG]; exact leastUp_pos hn M
theorem leastG_len {n : Nat} (hn : n ≤ 5) : (leastG n).length ≤ 1024 := by
  obtain ⟨b, hb, hb10, N, hN, hN1, hN2⟩ := pairs10 hn
  have := leastUp_len n N
  have hG : leastG n = leastUp n N := by unfold leastG; rw [hb, hN]; rfl
  rw [hG]; omega
theorem leastG_ok {n : Nat} (hn : n ≤ 5) {x : Gr} (hx : x ∈ leastG n) : x.n = n ∧ (0 ≤ x.e ∧ x.e ≤ 4294967295) ∧ graphOk (n : Int) x.e = true := by
  obtain ⟨b, hb, hb10, N, hN, hN1, hN2⟩ := pairs10 hn
  have hG : leastG n = leastUp n N := by unfold leastG; rw [hb, hN]; rfl
  rw [hG] at hx
  obtain ⟨h1, h2, h3⟩ := leastUp_mem hx
  refine ⟨h1, ⟨h2, by omega⟩, decide_eq_true ⟨⟨by omega, by omega⟩, ?_⟩⟩
  have hNi : (2 : Int) ^ b = N := by rw [hN]; simp
  rw [hb, Int.toNat_natCast, hNi]
  exact h3
theorem frs_snoc (L : List Fr) (p q : Int) : flatA (frsA L) ++ [.int .i64 p, .int .i64 q] = flatA (frsA (L ++ [⟨p, q⟩])) := by
  rw [flatA_append]; rfl
def densL (n e l : Int) (ps : List Fr) (m : Nat) : List Gr → Option (List Fr)
  | [] => some []
  | x :: r => (densO n e l ps m x.e).bind fun v => (densL n e l ps m r).map (v :: ·)
def shL (n e l : Int) (ps : List Fr) (m : Nat) : List Gr → Bool → List Fr × Bool
  | [], g => ([], g)
  | x :: r, g => ((shV n e l ps m x.e g).1 :: (shL n e l ps m r (shV n e l ps m x.e g).2).1, (shL n e l ps m r (shV n e l ps m x.e g).2).2)
theorem shV_dens (n e l : Int) (ps : List Fr) (m : Nat) (he : Int) (g : Bool) : (∀ v, densO n e l ps m he = some v → shV n e l ps m he g = (v, g)) ∧ (densO n e l ps m he = none → (shV n e l ps m he g).2 = true) := by
  obtain ⟨h1, h2⟩ := chF_G (fit := fun L => fitL true he e l L m) (ps := ps) (allL n.toNat m) ⟨0, 1⟩ g
  have h1 : ∀ v, chanceO n e l ps m he = some v → chV n e l ps m he g = (v, g) := h1
  have h2 : chanceO n e l ps m he = none → (chV n e l ps m he g).2 = true := h2
  unfold shV densO
  cases hc : chanceO n e l ps m he with
  | none =>
    rw [h2 hc]
    exact ⟨fun v hv => (by cases hv), fun _ => rfl⟩
  | some v =>
    rw [h1 v hc]
    simp only [Option.bind_some]
    cases hmu : mul2 v ⟨shQ m he, 1⟩ with
    | none => exact ⟨fun v hv => (by cases hv), fun _ => by simp⟩
    | some w => exact ⟨fun v hv => (by obtain rfl := Option.some.inj hv; simp [valO]), fun h => (by cases h)⟩
theorem shL_true (n e l : Int) (ps : List Fr) (m : Nat) : ∀ gs : List Gr, (shL n e l ps m gs true).2 = true
  | [] => rfl
  | x :: r => by
    have h : (shV n e l ps m x.e true).2 = true := by
      obtain ⟨h1, h2⟩ := shV_dens n e l ps m x.e true
      cases hd : densO n e l ps m x.e with
      | none => exact h2 hd
      | some v => rw [h1 v hd]
    rw [shL, h]
    exact shL_true n e l ps m r
theorem shL_dens (n e l : Int) (ps : List Fr) (m : Nat) : ∀ gs : List Gr, (∀ vs, densL n e l ps m gs = some vs → shL n e l ps m gs false = (vs, false)) ∧ (densL n e l ps m gs = none → (shL n e l ps m gs false).2 = true)
  | [] => ⟨fun vs h => (by obtain rfl := Option.some.inj h; rfl), fun h => (by cases h)⟩
  | x :: r => by
    obtain ⟨i1, i2⟩ := shL_dens n e l ps m r
    obtain ⟨h1, h2⟩ := shV_dens n e l ps m x.e false
    rw [densL, shL]
    cases hd : densO n e l ps m x.e with
    | none =>
      rw [h2 hd]
      exact ⟨fun vs h => (by cases h), fun _ => shL_true n e l ps m r⟩
    | some v =>
      rw [h1 v hd]
      simp only [Option.bind_some]
      cases hr : densL n e l ps m r with
      | none => exact ⟨fun vs h => (by cases h), fun _ => i2 hr⟩
      | some vs =>
        rw [i1 vs hr]
        exact ⟨fun ws h => (by obtain rfl := Option.some.inj h; rfl), fun h => (by cases h)⟩
theorem densL_len (n e l : Int) (ps : List Fr) (m : Nat) : ∀ {gs : List Gr} {vs : List Fr}, densL n e l ps m gs = some vs → vs.length = gs.length
  | [], vs, h => by obtain rfl := Option.some.inj h; rfl
  | x :: r, vs, h => by
    rw [densL] at h
    obtain ⟨v, hv, h⟩ := Option.bind_eq_some_iff.1 h
    obtain ⟨ws, hw, rfl⟩ := Option.map_eq_some_iff.1 h
    rw [List.length_cons, List.length_cons, densL_len n e l ps m hw]

def dnsR (n e l : Int) (ps : List Fr) (hn : Int) : AV × List (Option (List AV)) := if patOk n e l ps = true then (if 0 ≤ hn ∧ hn ≤ 5 then (match densL n e l ps hn.toNat (leastG hn.toNat) with
  | some vs => (.tup [.ref 0 2 0 vs.length .full, .int .i64 0], [some (flatA (frsA vs))])
  | none => (.tup [.sl [] true, .int .i64 3], [])) else (.tup [.sl [] true, .int .i64 2], [])) else (.tup [.sl [] true, .int .i64 1], [])
noncomputable def sp_dnsP : List AV → Option (AV × List (Option (List AV))) := pf (ι := (Int) × (Int) × (Int) × (List Fr) × (Int)) (α := AV × List (Option (List AV))) (fun ⟨n, e, l, ps, hn⟩ => (0 ≤ e ∧ e ≤ 4294967295) ∧ (0 ≤ l ∧ l ≤ 4294967295) ∧ ps.length ≤ maxLen) (fun ⟨n, e, l, ps, hn⟩ => [.agg [.int .i64 n, .int .u32 e, .int .u32 l, .sl (frsA ps) false], .int .i64 hn]) (fun ⟨n, e, l, ps, hn⟩ => dnsR n e l ps hn)
theorem sp_dnsP_eq (n e l : Int) (ps : List Fr) (hn : Int) (h : (0 ≤ e ∧ e ≤ 4294967295) ∧ (0 ≤ l ∧ l ≤ 4294967295) ∧ ps.length ≤ maxLen) : sp_dnsP [.agg [.int .i64 n, .int .u32 e, .int .u32 l, .sl (frsA ps) false], .int .i64 hn] = some (dnsR n e l ps hn) := by
  unfold sp_dnsP
  exact pf_eq (ι := (Int) × (Int) × (Int) × (List Fr) × (Int)) (α := AV × List (Option (List AV))) (n, e, l, ps, hn) h (by rintro ⟨n', e', l', ps', hn'⟩ _ e; simp_all [Int.natCast_inj])

def dnI (n e l : Int) (ps : List Fr) (gs : List Gr) : Nat × List Fr × Bool → St
  | (0, _, g) => ⟨tl [(2, .ptr 0 0), (6, .ptr 1 0), (7, .sl [] true), (21, .ref 2 2 0 gs.length .full), (22, .int .i64 gs.length), (23, .int .i64 0)], ⟨[some [.int .i64 n, .int .u32 e, .int .u32 l, .sl (frsA ps) false], some [.bool g], some (flatA (grsA gs))]⟩⟩
  | (i + 1, acc, g) => ⟨tl [(2, .ptr 0 0), (6, .ptr 1 0), (7, .ref 3 2 0 acc.length .full), (21, .ref 2 2 0 gs.length .full), (22, .int .i64 gs.length), (23, .int .i64 ((i : Int) + 1))], ⟨[some [.int .i64 n, .int .u32 e, .int .u32 l, .sl (frsA ps) false], some [.bool g], some (flatA (grsA gs)), some (flatA (frsA acc))]⟩⟩
theorem dn_case {hn : Int} (h : ¬ (0 ≤ hn ∧ hn ≤ 5)) : (decide (0 ≤ hn) && decide (hn ≤ 5)) = false := by simpa using h
theorem n_impl_DensitiesIn : QN PP 49 sp_dnsP := by
  refine QN_pf (fun i h => ?_) fun i h => ?_
  · obtain ⟨n, e, l, ps, hn⟩ := i; first | rfl | simp
  obtain ⟨n, e, l, ps, hn⟩ := i
  replace h : (0 ≤ e ∧ e ≤ 4294967295) ∧ (0 ≤ l ∧ l ≤ 4294967295) ∧ ps.length ≤ maxLen := h
  show T PP 49 [.agg [.int .i64 n, .int .u32 e, .int .u32 l, .sl (frsA ps) false], .int .i64 hn] .nil fun r' A' => r' = ((dnsR n e l ps hn : AV × List (Option (List AV)))).1 ∧ A' = ⟨((dnsR n e l ps hn : AV × List (Option (List AV)))).2⟩
  have hpc := h
  have h1 := sp_patOk_eq n e l ps h
  have h2 := sp_sizeOk_eq hn
  unfold dnsR
  cases hpo : patOk n e l ps with
  | false =>
    simp only [Bool.false_eq_true, if_false]
    refine H_code (Quiet.q1 q_impl_ValidPattern (Quiet.q1 q_impl_sizeOk (Quiet.e1 v_impl_sums_share.toE (Quiet.e1 n_impl_freeGraphs.toE Quiet.nil)))) hmix k_impl_DensitiesIn rfl (fun _ => 0) (by simp [AHeap.n, AHeap.nil]) (by intro b hb; simp [AHeap.n, AHeap.nil] at hb <;> subst hb <;> rfl) (by rfl) (by first | rfl | simp) ?_
    simp -dsimp -implicitDefEqProofs [c_impl_DensitiesIn, r_impl_DensitiesIn, h1, hpo, hsub]
  | true =>
    simp only [if_true]
    by_cases c : 0 ≤ hn ∧ hn ≤ 5
    · simp only [if_pos c]
      obtain ⟨m, rfl⟩ := Int.eq_ofNat_of_zero_le c.1
      have m5 : m ≤ 5 := by omega
      have c5 : (decide (0 ≤ (m : Int)) && decide ((m : Int) ≤ 5)) = true := by simp; omega
      rw [c5] at h2
      obtain ⟨_, hn4, _, hlen, hall⟩ := patOk_spec hpo
      have h3 := sp_freeG_eq m m5
      unfold leastR at h3
      have hpos := leastG_pos m5
      have hgl := leastG_len m5
      have hok := fun (x : Gr) (hx : x ∈ leastG m) => leastG_ok m5 hx
      rw [Int.toNat_natCast]
      obtain ⟨d1, d2⟩ := shL_dens n e l ps m (leastG m)
      have dl := fun vs => densL_len n e l ps m (gs := leastG m) (vs := vs)
      generalize leastG m = gs at *
      cases hd : densL n e l ps m gs with
      | none =>
        have d2 := d2 hd
        refine H_code (Quiet.q1 q_impl_ValidPattern (Quiet.q1 q_impl_sizeOk (Quiet.e1 v_impl_sums_share.toE (Quiet.e1 n_impl_freeGraphs.toE Quiet.nil)))) hmix k_impl_DensitiesIn rfl (fun _ => 3) (by simp [AHeap.n, AHeap.nil]) (by intro b hb; simp [AHeap.n, AHeap.nil] at hb <;> subst hb <;> rfl) (by rfl) (by first | rfl | simp) ?_
        simp -dsimp -implicitDefEqProofs [c_impl_DensitiesIn, r_impl_DensitiesIn, h1, hpo, h2, h3]
        refine wpLoop_st (dnI n e l ps gs) (fun q => q.1 ≤ gs.length ∧ q.2.1.length = q.1 ∧ q.2.1 ++ (shL n e l ps m (gs.drop q.1) q.2.2).1 = (shL n e l ps m gs false).1 ∧ (shL n e l ps m (gs.drop q.1) q.2.2).2 = (shL n e l ps m gs false).2) (fun q => gs.length - q.1) (0, [], false) ⟨by simp, rfl, rfl, rfl⟩ (Sub.mk' (fun b => if b = 0 then 0 else b + 1) (by simp) (by intro b hb; simp at hb <;> omega) (by rfl) (by simp [hsub, dnI]) (by simp [dnI])) ?_
        rintro ⟨i, acc, g⟩ ⟨q1, q2, q3, q4⟩
        simp only at q1 q2 q3 q4
        cases i with
        | zero =>
          obtain rfl := List.eq_nil_of_length_eq_zero q2
          simp -dsimp -implicitDefEqProofs [dnI]
          refine brW_of (fun h => ?_) (fun h => ?_) <;> simp only [decide_eq_true_eq, decide_eq_false_iff_not] at h
          · have hi : 0 < gs.length := by omega
            obtain ⟨hxn, hxe, hxg⟩ := hok gs[0] (List.getElem_mem hi)
            have h4 := sp_shareI_eq n e l ps m gs[0].e g ⟨⟨⟨hpc.1, hpc.2.1⟩, ⟨m5, hxe⟩, hn4, hlen, allOk_in hall⟩, hxg⟩
            rw [drop_cons hi, shL] at q3 q4
            have w1 : IntKind.i64.wrap 1 = 1 := rfl
            have l1 : 1 * 17 ≤ mostBytes := by decide
            have g0 := getE_gr0 gs 0 hi
            have g1 := getE_gr1 gs 0 hi
            have g2 := get_gr0 gs 0 hi
            have g3 := get_gr1 gs 0 hi
            simp only [Nat.zero_mul, Nat.zero_add] at g0 g1 g2 g3
            generalize shV n e l ps m gs[0].e g = C at h4 q3 q4
            obtain ⟨⟨cp, cq⟩, cg⟩ := C
            simp only at h4
            simp -dsimp -implicitDefEqProofs [hi, hxn, h4, w1, l1, g0, g1, g2, g3]
            exact .mk (1, [⟨cp, cq⟩], cg) ⟨by simp only; omega, rfl, q3, q4⟩ (by simp only; omega) (Sub.mk' (fun b => if b = 3 then 5 else b) (by simp) (by intro b hb; simp at hb <;> omega) (by rfl) (by simp [hsub, dnI, flatA_cons]) (by simp [dnI]))
          · omega
        | succ i =>
          simp -dsimp -implicitDefEqProofs [dnI]
          refine brW_of (fun h => ?_) (fun h => ?_) <;> simp only [decide_eq_true_eq, decide_eq_false_iff_not] at h
          · have hi : i + 1 < gs.length := by omega
            obtain ⟨hxn, hxe, hxg⟩ := hok gs[i + 1] (List.getElem_mem hi)
            have h4 := sp_shareI_eq n e l ps m gs[i + 1].e g ⟨⟨⟨hpc.1, hpc.2.1⟩, ⟨m5, hxe⟩, hn4, hlen, allOk_in hall⟩, hxg⟩
            rw [drop_cons hi, shL] at q3 q4
            have w1 : IntKind.i64.wrap ((i : Int) + 1 + 1) = (i : Int) + 1 + 1 := wrapI64 (by omega) (by omega)
            have l1 : (acc.length + 1) * 17 ≤ mostBytes := by simp only [mostBytes]; omega
            have l2 : ¬ ((acc.length + 1) * 2 ≤ acc.length * 2) := by omega
            have l3 : (flatA (frsA acc)).take (acc.length * 2) = flatA (frsA acc) := List.take_of_length_le (by simp)
            have g0 := getE_gr0 gs (i + 1) hi
            have g1 := getE_gr1 gs (i + 1) hi
            have g2 := get_gr0 gs (i + 1) hi
            have g3 := get_gr1 gs (i + 1) hi
            generalize shV n e l ps m gs[i + 1].e g = C at h4 q3 q4
            obtain ⟨⟨cp, cq⟩, cg⟩ := C
            simp only at h4
            have l4 := frs_snoc acc cp cq
            have q5 : acc ++ [⟨cp, cq⟩] ++ (shL n e l ps m (gs.drop (i + 1 + 1)) cg).1 = (shL n e l ps m gs false).1 := by rw [← q3]; simp
            have l5 : (acc ++ [(⟨cp, cq⟩ : Fr)]).length = acc.length + 1 := by simp
            generalize hA2 : acc ++ [(⟨cp, cq⟩ : Fr)] = A2 at *
            have hi0 : (0 : Int) ≤ (i : Int) + 1 := by omega
            have hi2 : (i : Int) + 1 < (gs.length : Int) := by omega
            simp -dsimp -implicitDefEqProofs [hi, hi0, hi2, hxn, h4, w1, l1, l2, l3, l4, g0, g1, g2, g3]
            exact .mk (i + 2, A2, cg) ⟨by simp only; omega, by simp only; omega, q5, q4⟩ (by simp only; omega) (Sub.mk' (fun b => if b = 3 then 6 else b) (by simp) (by intro b hb; simp at hb <;> omega) (by rfl) (by simp [hsub, dnI]) (by simp [dnI, l5, w1]))
          · have : ¬ i + 1 < gs.length := by omega
            rw [drop_end this, shL] at q3 q4
            simp only [List.append_nil] at q3
            rw [d2] at q4
            subst q4
            simp -dsimp -implicitDefEqProofs [hsub]
      | some vs =>
        have d1 := d1 vs hd
        refine H_code (Quiet.q1 q_impl_ValidPattern (Quiet.q1 q_impl_sizeOk (Quiet.e1 v_impl_sums_share.toE (Quiet.e1 n_impl_freeGraphs.toE Quiet.nil)))) hmix k_impl_DensitiesIn rfl (fun _ => 3) (by simp [AHeap.n, AHeap.nil]) (by intro b hb; simp [AHeap.n, AHeap.nil] at hb <;> subst hb <;> rfl) (by rfl) (by first | rfl | simp) ?_
        simp -dsimp -implicitDefEqProofs [c_impl_DensitiesIn, r_impl_DensitiesIn, h1, hpo, h2, h3]
        refine wpLoop_st (dnI n e l ps gs) (fun q => q.1 ≤ gs.length ∧ q.2.1.length = q.1 ∧ q.2.1 ++ (shL n e l ps m (gs.drop q.1) q.2.2).1 = (shL n e l ps m gs false).1 ∧ (shL n e l ps m (gs.drop q.1) q.2.2).2 = (shL n e l ps m gs false).2) (fun q => gs.length - q.1) (0, [], false) ⟨by simp, rfl, rfl, rfl⟩ (Sub.mk' (fun b => if b = 0 then 0 else b + 1) (by simp) (by intro b hb; simp at hb <;> omega) (by rfl) (by simp [hsub, dnI]) (by simp [dnI])) ?_
        rintro ⟨i, acc, g⟩ ⟨q1, q2, q3, q4⟩
        simp only at q1 q2 q3 q4
        cases i with
        | zero =>
          obtain rfl := List.eq_nil_of_length_eq_zero q2
          simp -dsimp -implicitDefEqProofs [dnI]
          refine brW_of (fun h => ?_) (fun h => ?_) <;> simp only [decide_eq_true_eq, decide_eq_false_iff_not] at h
          · have hi : 0 < gs.length := by omega
            obtain ⟨hxn, hxe, hxg⟩ := hok gs[0] (List.getElem_mem hi)
            have h4 := sp_shareI_eq n e l ps m gs[0].e g ⟨⟨⟨hpc.1, hpc.2.1⟩, ⟨m5, hxe⟩, hn4, hlen, allOk_in hall⟩, hxg⟩
            rw [drop_cons hi, shL] at q3 q4
            have w1 : IntKind.i64.wrap 1 = 1 := rfl
            have l1 : 1 * 17 ≤ mostBytes := by decide
            have g0 := getE_gr0 gs 0 hi
            have g1 := getE_gr1 gs 0 hi
            have g2 := get_gr0 gs 0 hi
            have g3 := get_gr1 gs 0 hi
            simp only [Nat.zero_mul, Nat.zero_add] at g0 g1 g2 g3
            generalize shV n e l ps m gs[0].e g = C at h4 q3 q4
            obtain ⟨⟨cp, cq⟩, cg⟩ := C
            simp only at h4
            simp -dsimp -implicitDefEqProofs [hi, hxn, h4, w1, l1, g0, g1, g2, g3]
            exact .mk (1, [⟨cp, cq⟩], cg) ⟨by simp only; omega, rfl, q3, q4⟩ (by simp only; omega) (Sub.mk' (fun b => if b = 3 then 5 else b) (by simp) (by intro b hb; simp at hb <;> omega) (by rfl) (by simp [hsub, dnI, flatA_cons]) (by simp [dnI]))
          · omega
        | succ i =>
          simp -dsimp -implicitDefEqProofs [dnI]
          refine brW_of (fun h => ?_) (fun h => ?_) <;> simp only [decide_eq_true_eq, decide_eq_false_iff_not] at h
          · have hi : i + 1 < gs.length := by omega
            obtain ⟨hxn, hxe, hxg⟩ := hok gs[i + 1] (List.getElem_mem hi)
            have h4 := sp_shareI_eq n e l ps m gs[i + 1].e g ⟨⟨⟨hpc.1, hpc.2.1⟩, ⟨m5, hxe⟩, hn4, hlen, allOk_in hall⟩, hxg⟩
            rw [drop_cons hi, shL] at q3 q4
            have w1 : IntKind.i64.wrap ((i : Int) + 1 + 1) = (i : Int) + 1 + 1 := wrapI64 (by omega) (by omega)
            have l1 : (acc.length + 1) * 17 ≤ mostBytes := by simp only [mostBytes]; omega
            have l2 : ¬ ((acc.length + 1) * 2 ≤ acc.length * 2) := by omega
            have l3 : (flatA (frsA acc)).take (acc.length * 2) = flatA (frsA acc) := List.take_of_length_le (by simp)
            have g0 := getE_gr0 gs (i + 1) hi
            have g1 := getE_gr1 gs (i + 1) hi
            have g2 := get_gr0 gs (i + 1) hi
            have g3 := get_gr1 gs (i + 1) hi
            generalize shV n e l ps m gs[i + 1].e g = C at h4 q3 q4
            obtain ⟨⟨cp, cq⟩, cg⟩ := C
            simp only at h4
            have l4 := frs_snoc acc cp cq
            have q5 : acc ++ [⟨cp, cq⟩] ++ (shL n e l ps m (gs.drop (i + 1 + 1)) cg).1 = (shL n e l ps m gs false).1 := by rw [← q3]; simp
            have l5 : (acc ++ [(⟨cp, cq⟩ : Fr)]).length = acc.length + 1 := by simp
            generalize hA2 : acc ++ [(⟨cp, cq⟩ : Fr)] = A2 at *
            have hi0 : (0 : Int) ≤ (i : Int) + 1 := by omega
            have hi2 : (i : Int) + 1 < (gs.length : Int) := by omega
            simp -dsimp -implicitDefEqProofs [hi, hi0, hi2, hxn, h4, w1, l1, l2, l3, l4, g0, g1, g2, g3]
            exact .mk (i + 2, A2, cg) ⟨by simp only; omega, by simp only; omega, q5, q4⟩ (by simp only; omega) (Sub.mk' (fun b => if b = 3 then 6 else b) (by simp) (by intro b hb; simp at hb <;> omega) (by rfl) (by simp [hsub, dnI]) (by simp [dnI, l5, w1]))
          · have : ¬ i + 1 < gs.length := by omega
            rw [drop_end this, shL] at q3 q4
            simp only [List.append_nil] at q3
            rw [d1] at q3 q4
            simp only at q3 q4
            subst q3; subst q4
            simp -dsimp -implicitDefEqProofs [hsub]
    · simp only [if_neg c]
      rw [dn_case c] at h2
      refine H_code (Quiet.q1 q_impl_ValidPattern (Quiet.q1 q_impl_sizeOk (Quiet.e1 v_impl_sums_share.toE (Quiet.e1 n_impl_freeGraphs.toE Quiet.nil)))) hmix k_impl_DensitiesIn rfl (fun _ => 0) (by simp [AHeap.n, AHeap.nil]) (by intro b hb; simp [AHeap.n, AHeap.nil] at hb <;> subst hb <;> rfl) (by rfl) (by first | rfl | simp) ?_
      simp -dsimp -implicitDefEqProofs [c_impl_DensitiesIn, r_impl_DensitiesIn, h1, hpo, h2, hsub]

def dnS (n e l : Int) (ps : List Fr) (gs : List Gr) : Nat × List Fr → St
  | (0, _) => ⟨tl [(2, .ptr 0 0), (6, .ref 1 2 0 gs.length .full), (7, .sl [] true), (8, .int .i64 0)], ⟨[some [.int .i64 n, .int .u32 e, .int .u32 l, .sl (frsA ps) false], some (flatA (grsA gs))]⟩⟩
  | (i + 1, acc) => ⟨tl [(2, .ptr 0 0), (6, .ref 1 2 0 gs.length .full), (7, .ref 2 2 0 acc.length .full), (8, .int .i64 ((i : Int) + 1))], ⟨[some [.int .i64 n, .int .u32 e, .int .u32 l, .sl (frsA ps) false], some (flatA (grsA gs)), some (flatA (frsA acc))]⟩⟩
theorem n_spec_DensitiesIn : QN PP 48 sp_dnsP := by
  refine QN_pf (fun i h => ?_) fun i h => ?_
  · obtain ⟨n, e, l, ps, hn⟩ := i; first | rfl | simp
  obtain ⟨n, e, l, ps, hn⟩ := i
  replace h : (0 ≤ e ∧ e ≤ 4294967295) ∧ (0 ≤ l ∧ l ≤ 4294967295) ∧ ps.length ≤ maxLen := h
  show T PP 48 [.agg [.int .i64 n, .int .u32 e, .int .u32 l, .sl (frsA ps) false], .int .i64 hn] .nil fun r' A' => r' = ((dnsR n e l ps hn : AV × List (Option (List AV)))).1 ∧ A' = ⟨((dnsR n e l ps hn : AV × List (Option (List AV)))).2⟩
  have hpc := h
  have h1 := sp_l07Ok_eq n e l ps h
  have h2 := sp_in_eq hn 0 5
  unfold dnsR
  cases hpo : patOk n e l ps with
  | false =>
    simp only [Bool.false_eq_true, if_false]
    refine H_code (Quiet.q1 q_spec_l00In (Quiet.e1 m_spec_l07Ok.toE (Quiet.e1 n_spec_l01All.toE (Quiet.e1 v_spec_l07Density.toE Quiet.nil)))) hmix k_spec_DensitiesIn rfl (fun _ => 0) (by simp [AHeap.n, AHeap.nil]) (by intro b hb; simp [AHeap.n, AHeap.nil] at hb <;> subst hb <;> rfl) (by rfl) (by first | rfl | simp) ?_
    simp -dsimp -implicitDefEqProofs [c_spec_DensitiesIn, r_spec_DensitiesIn, h1, hpo, hsub]
  | true =>
    simp only [if_true]
    by_cases c : 0 ≤ hn ∧ hn ≤ 5
    · simp only [if_pos c]
      obtain ⟨m, rfl⟩ := Int.eq_ofNat_of_zero_le c.1
      have m5 : m ≤ 5 := by omega
      have c5 : (decide (0 ≤ (m : Int)) && decide ((m : Int) ≤ 5)) = true := by simp; omega
      rw [c5] at h2
      obtain ⟨_, hn4, _, hlen, hall⟩ := patOk_spec hpo
      have h3 := sp_allP_eq m m5
      unfold leastR at h3
      have hpos := leastG_pos m5
      have hgl := leastG_len m5
      have hok := fun (x : Gr) (hx : x ∈ leastG m) => leastG_ok m5 hx
      rw [Int.toNat_natCast]
      generalize leastG m = gs at *
      cases hd : densL n e l ps m gs with
      | none =>
        refine H_code (Quiet.q1 q_spec_l00In (Quiet.e1 m_spec_l07Ok.toE (Quiet.e1 n_spec_l01All.toE (Quiet.e1 v_spec_l07Density.toE Quiet.nil)))) hmix k_spec_DensitiesIn rfl (fun _ => 2) (by simp [AHeap.n, AHeap.nil]) (by intro b hb; simp [AHeap.n, AHeap.nil] at hb <;> subst hb <;> rfl) (by rfl) (by first | rfl | simp) ?_
        simp -dsimp -implicitDefEqProofs [c_spec_DensitiesIn, r_spec_DensitiesIn, h1, hpo, h2, h3]
        refine wpLoop_st (dnS n e l ps gs) (fun q => q.1 ≤ gs.length ∧ q.2.length = q.1 ∧ (densL n e l ps m (gs.drop q.1)).map (q.2 ++ ·) = densL n e l ps m gs) (fun q => gs.length - q.1) (0, []) ⟨by simp, rfl, by simp⟩ (Sub.keep (by simp [dnS]) (by simp [hsub, dnS]) (by simp [dnS])) ?_
        rintro ⟨i, acc⟩ ⟨q1, q2, q3⟩
        simp only at q1 q2 q3
        cases i with
        | zero =>
          obtain rfl := List.eq_nil_of_length_eq_zero q2
          simp -dsimp -implicitDefEqProofs [dnS]
          refine brW_of (fun h => ?_) (fun h => ?_) <;> simp only [decide_eq_true_eq, decide_eq_false_iff_not] at h
          · have hi : 0 < gs.length := by omega
            obtain ⟨hxn, hxe, hxg⟩ := hok gs[0] (List.getElem_mem hi)
            have h4 := sp_densS_eq n e l ps m gs[0].e ⟨⟨⟨hpc.1, hpc.2.1⟩, ⟨m5, hxe⟩, hn4, hlen, allOk_in hall⟩, hxg⟩
            rw [drop_cons hi, densL] at q3
            have w1 : IntKind.i64.wrap 1 = 1 := rfl
            have l1 : 1 * 17 ≤ mostBytes := by decide
            have g0 := getE_gr0 gs 0 hi
            have g1 := getE_gr1 gs 0 hi
            have g2 := get_gr0 gs 0 hi
            have g3 := get_gr1 gs 0 hi
            simp only [Nat.zero_mul, Nat.zero_add] at g0 g1 g2 g3
            cases hv : densO n e l ps m gs[0].e with
            | none =>
              rw [hv, hd] at q3
              rw [hv] at h4
              simp only [frO] at h4
              simp -dsimp -implicitDefEqProofs [hi, hxn, h4, g0, g1, g2, g3, hsub]
            | some v =>
              rw [hv, hd] at q3
              rw [hv] at h4
              obtain ⟨cp, cq⟩ := v
              simp only [frO] at h4
              simp -dsimp -implicitDefEqProofs [hi, hxn, h4, w1, l1, g0, g1, g2, g3]
              exact .mk (1, [⟨cp, cq⟩]) ⟨by simp only; omega, rfl, by simpa [hd, Option.map_map, Function.comp_def] using q3⟩ (by simp only; omega) (Sub.mk' (fun b => if b = 2 then 4 else b) (by simp) (by intro b hb; simp at hb <;> omega) (by rfl) (by simp [hsub, dnS, flatA_cons]) (by simp [dnS]))
          · omega
        | succ i =>
          simp -dsimp -implicitDefEqProofs [dnS]
          refine brW_of (fun h => ?_) (fun h => ?_) <;> simp only [decide_eq_true_eq, decide_eq_false_iff_not] at h
          · have hi : i + 1 < gs.length := by omega
            obtain ⟨hxn, hxe, hxg⟩ := hok gs[i + 1] (List.getElem_mem hi)
            have h4 := sp_densS_eq n e l ps m gs[i + 1].e ⟨⟨⟨hpc.1, hpc.2.1⟩, ⟨m5, hxe⟩, hn4, hlen, allOk_in hall⟩, hxg⟩
            rw [drop_cons hi, densL] at q3
            have w1 : IntKind.i64.wrap ((i : Int) + 1 + 1) = (i : Int) + 1 + 1 := wrapI64 (by omega) (by omega)
            have l1 : (acc.length + 1) * 17 ≤ mostBytes := by simp only [mostBytes]; omega
            have l2 : ¬ ((acc.length + 1) * 2 ≤ acc.length * 2) := by omega
            have l3 : (flatA (frsA acc)).take (acc.length * 2) = flatA (frsA acc) := List.take_of_length_le (by simp)
            have g0 := getE_gr0 gs (i + 1) hi
            have g1 := getE_gr1 gs (i + 1) hi
            have g2 := get_gr0 gs (i + 1) hi
            have g3 := get_gr1 gs (i + 1) hi
            have hi0 : (0 : Int) ≤ (i : Int) + 1 := by omega
            have hi2 : (i : Int) + 1 < (gs.length : Int) := by omega
            cases hv : densO n e l ps m gs[i + 1].e with
            | none =>
              rw [hv, hd] at q3
              rw [hv] at h4
              simp only [frO] at h4
              simp -dsimp -implicitDefEqProofs [hi, hi0, hi2, hxn, h4, g0, g1, g2, g3, hsub]
            | some v =>
              rw [hv, hd] at q3
              rw [hv] at h4
              obtain ⟨cp, cq⟩ := v
              simp only [frO] at h4
              have l4 := frs_snoc acc cp cq
              have q5 : (densL n e l ps m (gs.drop (i + 1 + 1))).map (acc ++ [(⟨cp, cq⟩ : Fr)] ++ ·) = densL n e l ps m gs := by rw [hd, ← q3]; simp [Option.map_map, Function.comp_def]
              have l5 : (acc ++ [(⟨cp, cq⟩ : Fr)]).length = acc.length + 1 := by simp
              generalize hA2 : acc ++ [(⟨cp, cq⟩ : Fr)] = A2 at *
              simp -dsimp -implicitDefEqProofs [hi, hi0, hi2, hxn, h4, w1, l1, l2, l3, l4, g0, g1, g2, g3]
              exact .mk (i + 2, A2) ⟨by simp only; omega, by simp only; omega, q5⟩ (by simp only; omega) (Sub.mk' (fun b => if b = 2 then 5 else b) (by simp) (by intro b hb; simp at hb <;> omega) (by rfl) (by simp [hsub, dnS]) (by simp [dnS, l5, w1]))
          · have : ¬ i + 1 < gs.length := by omega
            rw [drop_end this, densL, hd] at q3
            simp at q3
      | some vs =>
        refine H_code (Quiet.q1 q_spec_l00In (Quiet.e1 m_spec_l07Ok.toE (Quiet.e1 n_spec_l01All.toE (Quiet.e1 v_spec_l07Density.toE Quiet.nil)))) hmix k_spec_DensitiesIn rfl (fun _ => 2) (by simp [AHeap.n, AHeap.nil]) (by intro b hb; simp [AHeap.n, AHeap.nil] at hb <;> subst hb <;> rfl) (by rfl) (by first | rfl | simp) ?_
        simp -dsimp -implicitDefEqProofs [c_spec_DensitiesIn, r_spec_DensitiesIn, h1, hpo, h2, h3]
        refine wpLoop_st (dnS n e l ps gs) (fun q => q.1 ≤ gs.length ∧ q.2.length = q.1 ∧ (densL n e l ps m (gs.drop q.1)).map (q.2 ++ ·) = densL n e l ps m gs) (fun q => gs.length - q.1) (0, []) ⟨by simp, rfl, by simp⟩ (Sub.keep (by simp [dnS]) (by simp [hsub, dnS]) (by simp [dnS])) ?_
        rintro ⟨i, acc⟩ ⟨q1, q2, q3⟩
        simp only at q1 q2 q3
        cases i with
        | zero =>
          obtain rfl := List.eq_nil_of_length_eq_zero q2
          simp -dsimp -implicitDefEqProofs [dnS]
          refine brW_of (fun h => ?_) (fun h => ?_) <;> simp only [decide_eq_true_eq, decide_eq_false_iff_not] at h
          · have hi : 0 < gs.length := by omega
            obtain ⟨hxn, hxe, hxg⟩ := hok gs[0] (List.getElem_mem hi)
            have h4 := sp_densS_eq n e l ps m gs[0].e ⟨⟨⟨hpc.1, hpc.2.1⟩, ⟨m5, hxe⟩, hn4, hlen, allOk_in hall⟩, hxg⟩
            rw [drop_cons hi, densL] at q3
            have w1 : IntKind.i64.wrap 1 = 1 := rfl
            have l1 : 1 * 17 ≤ mostBytes := by decide
            have g0 := getE_gr0 gs 0 hi
            have g1 := getE_gr1 gs 0 hi
            have g2 := get_gr0 gs 0 hi
            have g3 := get_gr1 gs 0 hi
            simp only [Nat.zero_mul, Nat.zero_add] at g0 g1 g2 g3
            cases hv : densO n e l ps m gs[0].e with
            | none =>
              rw [hv, hd] at q3
              rw [hv] at h4
              simp only [frO] at h4
              simp at q3
            | some v =>
              rw [hv, hd] at q3
              rw [hv] at h4
              obtain ⟨cp, cq⟩ := v
              simp only [frO] at h4
              simp -dsimp -implicitDefEqProofs [hi, hxn, h4, w1, l1, g0, g1, g2, g3]
              exact .mk (1, [⟨cp, cq⟩]) ⟨by simp only; omega, rfl, by simpa [hd, Option.map_map, Function.comp_def] using q3⟩ (by simp only; omega) (Sub.mk' (fun b => if b = 2 then 4 else b) (by simp) (by intro b hb; simp at hb <;> omega) (by rfl) (by simp [hsub, dnS, flatA_cons]) (by simp [dnS]))
          · omega
        | succ i =>
          simp -dsimp -implicitDefEqProofs [dnS]
          refine brW_of (fun h => ?_) (fun h => ?_) <;> simp only [decide_eq_true_eq, decide_eq_false_iff_not] at h
          · have hi : i + 1 < gs.length := by omega
            obtain ⟨hxn, hxe, hxg⟩ := hok gs[i + 1] (List.getElem_mem hi)
            have h4 := sp_densS_eq n e l ps m gs[i + 1].e ⟨⟨⟨hpc.1, hpc.2.1⟩, ⟨m5, hxe⟩, hn4, hlen, allOk_in hall⟩, hxg⟩
            rw [drop_cons hi, densL] at q3
            have w1 : IntKind.i64.wrap ((i : Int) + 1 + 1) = (i : Int) + 1 + 1 := wrapI64 (by omega) (by omega)
            have l1 : (acc.length + 1) * 17 ≤ mostBytes := by simp only [mostBytes]; omega
            have l2 : ¬ ((acc.length + 1) * 2 ≤ acc.length * 2) := by omega
            have l3 : (flatA (frsA acc)).take (acc.length * 2) = flatA (frsA acc) := List.take_of_length_le (by simp)
            have g0 := getE_gr0 gs (i + 1) hi
            have g1 := getE_gr1 gs (i + 1) hi
            have g2 := get_gr0 gs (i + 1) hi
            have g3 := get_gr1 gs (i + 1) hi
            have hi0 : (0 : Int) ≤ (i : Int) + 1 := by omega
            have hi2 : (i : Int) + 1 < (gs.length : Int) := by omega
            cases hv : densO n e l ps m gs[i + 1].e with
            | none =>
              rw [hv, hd] at q3
              rw [hv] at h4
              simp only [frO] at h4
              simp at q3
            | some v =>
              rw [hv, hd] at q3
              rw [hv] at h4
              obtain ⟨cp, cq⟩ := v
              simp only [frO] at h4
              have l4 := frs_snoc acc cp cq
              have q5 : (densL n e l ps m (gs.drop (i + 1 + 1))).map (acc ++ [(⟨cp, cq⟩ : Fr)] ++ ·) = densL n e l ps m gs := by rw [hd, ← q3]; simp [Option.map_map, Function.comp_def]
              have l5 : (acc ++ [(⟨cp, cq⟩ : Fr)]).length = acc.length + 1 := by simp
              generalize hA2 : acc ++ [(⟨cp, cq⟩ : Fr)] = A2 at *
              simp -dsimp -implicitDefEqProofs [hi, hi0, hi2, hxn, h4, w1, l1, l2, l3, l4, g0, g1, g2, g3]
              exact .mk (i + 2, A2) ⟨by simp only; omega, by simp only; omega, q5⟩ (by simp only; omega) (Sub.mk' (fun b => if b = 2 then 5 else b) (by simp) (by intro b hb; simp at hb <;> omega) (by rfl) (by simp [hsub, dnS]) (by simp [dnS, l5, w1]))
          · have : ¬ i + 1 < gs.length := by omega
            rw [drop_end this, densL, hd] at q3
            simp at q3
            subst q3
            simp -dsimp -implicitDefEqProofs [hsub]
    · simp only [if_neg c]
      rw [dn_case c] at h2
      refine H_code (Quiet.q1 q_spec_l00In (Quiet.e1 m_spec_l07Ok.toE (Quiet.e1 n_spec_l01All.toE (Quiet.e1 v_spec_l07Density.toE Quiet.nil)))) hmix k_spec_DensitiesIn rfl (fun _ => 0) (by simp [AHeap.n, AHeap.nil]) (by intro b hb; simp [AHeap.n, AHeap.nil] at hb <;> subst hb <;> rfl) (by rfl) (by first | rfl | simp) ?_
      simp -dsimp -implicitDefEqProofs [c_spec_DensitiesIn, r_spec_DensitiesIn, h1, hpo, h2, hsub]
end Go.Proofs.YtkgodhdpcomjbaaAi
end

section
/- Contracts: the law of DensitiesIn. -/
namespace Go.Proofs.YtkgodhdpcomjbaaAi
open Go Go.RowKit
set_option linter.unusedVariables false
set_option linter.unusedSimpArgs false
set_option maxRecDepth 20000

theorem eqFrs_refl (l : List Fr) (h : l.length ≤ maxLen) : sp_eqFractionS [.sl (frsA l) false, .sl (frsA l) false] = some (.bool true) := by
  rw [sp_eqFractionS_eq l l h]; simp
theorem eqFrs_nil : sp_eqFractionS [.sl [] false, .sl [] false] = some (.bool true) := eqFrs_refl [] (by simp [maxLen])
theorem heldFr_nil (k : Int) (h : kOk k) : sp_heldFr [.sl [] false, .int .i64 k] = some (.int .i64 k) := by
  have := sp_heldFr_eq 0 k ⟨h, by omega⟩
  simpa [marksF, mapA] using this
set_option maxHeartbeats 4000000 in
theorem law_densitiesIn (xs : List AV) (h : WtA [tyPattern, .int .i64] xs) : T PP 12 xs .nil fun r _ => r = .bool true := by
  simp only [WtA_cons, WtA_nil, WtV_int] at h
  obtain ⟨x, _, rfl, hx, _, _, rfl, ⟨hn, rfl, _⟩, rfl⟩ := h
  obtain ⟨n, e, l, ps, rfl, h⟩ := wt_pattern hx
  refine (P_code (r := .bool true) (Quiet.q1 q_laws_szPattern (Quiet.e1 n_spec_DensitiesIn.toR (Quiet.e1 n_laws_toPattern.toE (Quiet.e1 n_impl_DensitiesIn.toR (Quiet.e1 q_laws_eqPattern.toR (Quiet.e1 q_laws_eqFractionS.toR (Quiet.e1 e_laws_markPattern (Quiet.e1 e_laws_markFractionS (Quiet.e1 q_laws_heldFractionS.toR Quiet.nil))))))))) hmix k_laws_FnExactDensitiesIn rfl rfl ?_).mono fun r A' h => h.1
  by_cases c : (ps.length : Int) ≤ 1048576
  · have c2 : ¬ ((1048576 : Int) - ps.length < 0) := by omega
    have hT := sp_toPatN_eq n e l ps (by omega)
    have hq := eqPat_refl n e l ps h.2.2
    have hS := sp_dnsP_eq n e l ps hn h
    have hm := fun t => sp_markPat_eq n e l ps 1 t ⟨k1_ok, by omega⟩
    have hneg : ¬ (1 + 2 * (ps.length : Int) < 0) := by omega
    have hz := sp_szPattern_eq n e l ps 1048576 ⟨by omega, by omega, h.2.2⟩
    unfold dnsR at hS
    cases hpo : patOk n e l ps with
    | false =>
      simp only [hpo, Bool.false_eq_true, if_false] at hS
      simp -dsimp -implicitDefEqProofs [c_laws_FnExactDensitiesIn, r_laws_FnExactDensitiesIn, hz, c, c2, hT, hS, hq, hm, hneg, eqFrs_nil, heldFr_nil, k1_ok]
    | true =>
      simp only [hpo, if_true] at hS
      by_cases d : 0 ≤ hn ∧ hn ≤ 5
      · rw [if_pos d] at hS
        cases hd : densL n e l ps hn.toNat (leastG hn.toNat) with
        | none =>
          simp only [hd] at hS
          simp -dsimp -implicitDefEqProofs [c_laws_FnExactDensitiesIn, r_laws_FnExactDensitiesIn, hz, c, c2, hT, hS, hq, hm, hneg, eqFrs_nil, heldFr_nil, k1_ok]
        | some vs =>
          simp only [hd] at hS
          have hvl := densL_len n e l ps hn.toNat hd
          have hgl := leastG_len (n := hn.toNat) (by omega)
          have hq2 := eqFrs_refl vs (by simp [maxLen]; omega)
          have hmi := fun t => sp_markFr_eq vs 1 t ⟨k1_ok, by omega⟩
          have hhi := sp_heldFr_eq vs.length 1 ⟨k1_ok, by omega⟩
          have hneg2 : ¬ (1 + 2 * (vs.length : Int) < 0) := by omega
          simp -dsimp -implicitDefEqProofs [c_laws_FnExactDensitiesIn, r_laws_FnExactDensitiesIn, hz, c, c2, hT, hS, hq, hm, hneg, hq2, hmi, hhi, hneg2]
      · rw [if_neg d] at hS
        simp -dsimp -implicitDefEqProofs [c_laws_FnExactDensitiesIn, r_laws_FnExactDensitiesIn, hz, c, c2, hT, hS, hq, hm, hneg, eqFrs_nil, heldFr_nil, k1_ok]
  · simp -dsimp -implicitDefEqProofs [c_laws_FnExactDensitiesIn, r_laws_FnExactDensitiesIn, sp_szPattern_eq n e l ps 1048576 ⟨by omega, by omega, h.2.2⟩, c]
end Go.Proofs.YtkgodhdpcomjbaaAi
end
