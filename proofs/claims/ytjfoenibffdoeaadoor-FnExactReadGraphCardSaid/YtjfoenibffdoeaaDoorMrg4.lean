/- Contracts, joined. -/
import Derived.Test.YtjfoenibffdoeaaDoorMrg3
section
/- Contracts: ReadGraph of the reference. -/
namespace Go.Proofs.YtjfoenibffdoeaaDoorAi
open Go Go.RowKit
set_option linter.unusedVariables false
set_option linter.unusedSimpArgs false
set_option maxRecDepth 20000

def wA (w : ByteArray) : ByteArray := (splitL w 45)[0]?.getD noB
def wB (w : ByteArray) : ByteArray := (splitL w 45)[1]?.getD noB
def edgeS (n : Int) (w : ByteArray) : Bool := decide ((splitL w 45).length = 2) && ((l01B (wA w) && l01B (wB w)) && pairI n (l01V (wA w)) (l01V (wB w)))
def goS (n : Int) : List ByteArray → Nat → Option Nat
  | [], m => some m
  | w :: r, m => if edgeS n w = true then goS n r (m ||| 2 ^ bitI (l01V (wA w)).toNat (l01V (wB w)).toNat) else none
def gword : ByteArray := ⟨#[103, 114, 97, 112, 104]⟩
def h0S (s : ByteArray) : ByteArray := (splitL s 32)[0]?.getD noB
def h1S (s : ByteArray) : ByteArray := (splitL s 32)[1]?.getD noB
def nS (s : ByteArray) : Int := l01V (h1S s)
def okS (s : ByteArray) : Bool := (decide (2 ≤ (splitL s 32).length) && (h0S s == gword)) && (l01B (h1S s) && decide (nS s ≤ 5))
def rsO (s : ByteArray) : Option (Nat × Nat) := if okS s = true then (goS (nS s) ((splitL s 32).drop 2) 0).bind fun m => if (graphT (nS s) m == s) = true then some ((nS s).toNat, m) else none else none
noncomputable def sp_readGrS : List AV → Option (AV) := pf (ι := (ByteArray)) (α := AV) (fun s => s.size ≤ 1048576) (fun s => [.str s]) (fun s => rgA (rsO s))
theorem sp_readGrS_eq (s : ByteArray) (h : s.size ≤ 1048576) : sp_readGrS [.str s] = some (rgA (rsO s)) := by
  unfold sp_readGrS
  exact pf_eq (ι := (ByteArray)) (α := AV) s h (by rintro s' _ e; simp_all [Int.natCast_inj])
set_option maxHeartbeats 4000000 in
theorem q_spec_ReadGraph : QP PP 43 sp_readGrS := by
  refine QP_pf (fun s h => ?_) fun s h => ?_
  · exact ⟨by first | rfl | simp, by first | rfl | simp⟩
  replace h : s.size ≤ 1048576 := h
  refine P_code (Quiet.q1 q_spec_l01Number (Quiet.q1 q_spec_l01Pair (Quiet.q1 q_spec_l01Bit (Quiet.q1 q_spec_GraphText (Quiet.e1 n_spec_l01Split.toE Quiet.nil))))) hmix k_spec_ReadGraph rfl ?_ ?_
  · first | rfl | simp
  show wpc 0 PP _ c_spec_ReadGraph (initSt [.str s] .nil) (endP r_spec_ReadGraph (rgA (rsO s)))
  have hsp := sp_split_eq s 32 ⟨h, by omega, by omega⟩
  rw [flat_strs] at hsp
  have hne : splitL s 32 ≠ [] := (splF_len s 32 _ _ _ _).2
  have hlenm := (splF_len s 32 s.size 0 0 []).1
  have hlen : 0 < (splitL s 32).length := List.length_pos_iff.2 hne
  have hmost : (splitL s 32).length ≤ 1048577 := by
    have : (splitL s 32).length ≤ 0 + s.size + 1 := hlenm
    omega
  have hleni : (0 : Int) < (splitL s 32).length := by omega
  have e0 : (splitL s 32)[0]'hlen = h0S s := by unfold h0S; rw [List.getElem?_eq_getElem hlen]; rfl
  have hsz : ∀ w ∈ splitL s 32, w.size ≤ 1048576 := fun w hw => by have := splitL_size s 32 w hw; omega
  have e1 : ∀ hl : 1 < (splitL s 32).length, (splitL s 32)[1]'hl = h1S s := fun hl => by unfold h1S; rw [List.getElem?_eq_getElem hl]; rfl
  unfold rsO
  by_cases h2 : 2 ≤ (splitL s 32).length
  rotate_left
  · have : okS s = false := by unfold okS; rw [decide_eq_false h2]; rfl
    rw [this]
    generalize splitL s 32 = W at *
    have rr : renL (shiftN 1) (strsA W) = strsA W := by rw [← flat_strs]; simp
    have h2' : (W.length : Int) < 2 := by omega
    have h2n : W.length < 2 := by omega
    simp -dsimp -implicitDefEqProofs [c_spec_ReadGraph, r_spec_ReadGraph, hsp, rr, h2', h2n, rgA]
  have hl1 : 1 < (splitL s 32).length := by omega
  have e1' := e1 hl1
  have hz1 : (h1S s).size ≤ 1048576 := by rw [← e1']; exact hsz _ (List.getElem_mem hl1)
  have hnum := sp_l01Num_eq (h1S s) hz1
  have hpos := l01V_in (h1S s)
  have hgw : (h0S s != (⟨#[103, 114, 97, 112, 104]⟩ : ByteArray)) = !(h0S s == gword) := rfl
  have okE : okS s = ((h0S s == gword) && (l01B (h1S s) && decide (nS s ≤ 5))) := by unfold okS; rw [decide_eq_true h2, Bool.true_and]
  rw [okE]
  generalize hW : splitL s 32 = W at *
  have r3 : ltL 3 (strsA W) = true := by rw [← flat_strs]; simp
  have rr0 : renL (fun b => b) (strsA W) = strsA W := by rw [← flat_strs]; simp
  have rr : renL (shiftN 1) (strsA W) = strsA W := by rw [← flat_strs]; simp
  have h2' : ¬ (W.length : Int) < 2 := by omega
  have h2n : ¬ W.length < 2 := by omega
  have q0 : W[0]? = some (h0S s) := by rw [List.getElem?_eq_getElem hlen, e0]
  have q1 : W[1]? = some (h1S s) := by rw [List.getElem?_eq_getElem hl1, e1']
  have hl1i : (1 : Int) < W.length := by omega
  cases k1 : (h0S s == gword) <;> rw [k1] at hgw
  · simp -dsimp -implicitDefEqProofs [c_spec_ReadGraph, r_spec_ReadGraph, hsp, rr, h2', h2n, hlen, hleni, e0, q0, hgw, rgA]
  cases k2 : l01B (h1S s) <;> rw [k2] at hnum
  · simp -dsimp -implicitDefEqProofs [c_spec_ReadGraph, r_spec_ReadGraph, hsp, rr, h2', h2n, hlen, hleni, hl1, hl1i, e0, e1', q0, q1, hgw, hnum, rgA]
  by_cases k3 : nS s ≤ 5
  rotate_left
  · have k3' : 5 < l01V (h1S s) := by unfold nS at k3; omega
    simp -dsimp -implicitDefEqProofs [c_spec_ReadGraph, r_spec_ReadGraph, hsp, rr, h2', h2n, hlen, hleni, hl1, hl1i, e0, e1', q0, q1, hgw, hnum, k3, k3', rgA]
  have k3' : ¬ 5 < l01V (h1S s) := by unfold nS at k3; omega
  obtain ⟨n, hn⟩ := Int.eq_ofNat_of_zero_le hpos.1
  have hnS : nS s = (n : Int) := hn
  have hn5 : n ≤ 5 := by omega
  rw [hnS] at k3 ⊢
  rw [hn] at hnum k3'
  simp -dsimp -implicitDefEqProofs [c_spec_ReadGraph, r_spec_ReadGraph, hsp, rr, h2', h2n, hlen, hleni, hl1, hl1i, e0, e1', q0, q1, hgw, hnum, k3, k3', hn5]
  refine wpLoop_st (fun (q : Nat × Nat) => ⟨tl [(0, .str s), (2, .ptr 0 0), (4, .ref 1 1 0 W.length .full), (5, .int .i64 n), (7, .ptr 2 0), (8, .int .i64 ((q.1 : Int) + 2))], ⟨[some [.int .i64 0, .int .u32 0], some (strsA W), some [.int .i64 n, .int .u32 q.2]]⟩⟩) (fun q => q.1 + 2 ≤ W.length ∧ q.2 < 1024 ∧ goS n (W.drop (q.1 + 2)) q.2 = goS n (W.drop 2) 0) (fun q => W.length - q.1) (0, 0) ⟨by simp only; omega, by simp, rfl⟩ (Sub.keep (by simp) (by simp [hsub, rr0, r3]) (by simp)) ?_
  rintro ⟨i, m⟩ ⟨hi, hm, hg⟩
  simp only at hi hm hg
  simp -dsimp -implicitDefEqProofs
  refine brW_of (fun h => ?_) (fun h => ?_) <;> simp only [decide_eq_true_eq, decide_eq_false_iff_not] at h
  · have hx1 : i + 2 < W.length := by omega
    have hx3 : (i : Int) + 2 < W.length := by omega
    have hx4 : (0 : Int) ≤ (i : Int) + 2 := by omega
    have hx5 : ((i : Int) + 2).toNat = i + 2 := by omega
    have hw : IntKind.wrap .i64 ((i : Int) + 2 + 1) = (i : Int) + 2 + 1 := wrapI64 (by omega) (by omega)
    have hwsz := hsz _ (List.getElem_mem hx1)
    rw [drop_cons hx1, goS] at hg
    have q2 : W[i + 2]? = some W[i + 2] := List.getElem?_eq_getElem hx1
    generalize hww : W[i + 2] = w at *
    have hs2 := sp_split_eq w 45 ⟨hwsz, by omega, by omega⟩
    rw [flat_strs] at hs2
    have hz2 := splitL_size w 45
    have f0 : wA w = (splitL w 45)[0]?.getD noB := rfl
    have f1 : wB w = (splitL w 45)[1]?.getD noB := rfl
    have ke : edgeS n w = (decide ((splitL w 45).length = 2) && ((l01B (wA w) && l01B (wB w)) && pairI n (l01V (wA w)) (l01V (wB w)))) := rfl
    generalize splitL w 45 = E at *
    have rrE : renL (shiftN 3) (strsA E) = strsA E := by rw [← flat_strs]; simp
    by_cases k4 : E.length = 2
    rotate_left
    · have k4' : ((E.length : Int) != 2) = true := by simp; omega
      rw [decide_eq_false k4, Bool.false_and] at ke
      rw [ke] at hg
      simp only [Bool.false_eq_true, if_false] at hg
      rw [← hg]
      simp -dsimp -implicitDefEqProofs [hx1, hx3, hx4, hx5, hww, q2, hs2, rrE, k4', rgA]
    have k4' : ((E.length : Int) != 2) = false := by simp; omega
    rw [decide_eq_true k4, Bool.true_and] at ke
    have hE0 : 0 < E.length := by omega
    have hE1 : 1 < E.length := by omega
    have hE0i : (0 : Int) < E.length := by omega
    have hE1i : (1 : Int) < E.length := by omega
    have g0 : E[0] = wA w := by rw [f0, List.getElem?_eq_getElem hE0]; rfl
    have g1 : E[1] = wB w := by rw [f1, List.getElem?_eq_getElem hE1]; rfl
    have p0 : E[0]? = some (wA w) := by rw [List.getElem?_eq_getElem hE0, g0]
    have p1 : E[1]? = some (wB w) := by rw [List.getElem?_eq_getElem hE1, g1]
    have zA := hz2 _ (List.getElem_mem hE0)
    have zB := hz2 _ (List.getElem_mem hE1)
    rw [g0] at zA
    rw [g1] at zB
    have n1 := sp_l01Num_eq (wA w) (by omega)
    have n2 := sp_l01Num_eq (wB w) (by omega)
    have hpr := sp_pairI_eq n (l01V (wA w)) (l01V (wB w)) (by omega)
    cases k5 : l01B (wA w) <;> rw [k5] at n1 ke
    · rw [Bool.false_and, Bool.false_and] at ke
      rw [ke] at hg
      simp only [Bool.false_eq_true, if_false] at hg
      rw [← hg]
      simp -dsimp -implicitDefEqProofs [hx1, hx3, hx4, hx5, hww, q2, hs2, rrE, k4', hE0, hE1, hE0i, hE1i, g0, g1, p0, p1, n1, n2, rgA]
    cases k6 : l01B (wB w) <;> rw [k6] at n2 ke
    · rw [Bool.and_false, Bool.false_and] at ke
      rw [ke] at hg
      simp only [Bool.false_eq_true, if_false] at hg
      rw [← hg]
      simp -dsimp -implicitDefEqProofs [hx1, hx3, hx4, hx5, hww, q2, hs2, rrE, k4', hE0, hE1, hE0i, hE1i, g0, g1, p0, p1, n1, n2, rgA]
    cases k7 : pairI n (l01V (wA w)) (l01V (wB w)) <;> rw [k7] at hpr ke
    · rw [Bool.and_false] at ke
      rw [ke] at hg
      simp only [Bool.false_eq_true, if_false] at hg
      rw [← hg]
      simp -dsimp -implicitDefEqProofs [hx1, hx3, hx4, hx5, hww, q2, hs2, rrE, k4', hE0, hE1, hE0i, hE1i, g0, g1, p0, p1, n1, n2, hpr, rgA]
    rw [if_pos (by rw [ke]; rfl)] at hg
    have hin := pairI_in (by omega) k7
    have hbt := sp_bit_eq (l01V (wA w)) (l01V (wB w)) ⟨by omega, by omega⟩
    have hsm := bit_small hin
    have ho := or32 (a := m) (b := 2 ^ bitI (l01V (wA w)).toNat (l01V (wB w)).toNat) (by omega) (by omega)
    have hcast : ((2 ^ bitI (l01V (wA w)).toNat (l01V (wB w)).toNat : Nat) : Int) = 2 ^ bitI (l01V (wA w)).toNat (l01V (wB w)).toNat := by simp
    rw [hcast] at ho
    have hlt : m ||| 2 ^ bitI (l01V (wA w)).toNat (l01V (wB w)).toNat < 1024 := Nat.or_lt_two_pow (n := 10) hm hsm
    generalize hE : (m ||| 2 ^ bitI (l01V (wA w)).toNat (l01V (wB w)).toNat) = m2 at *
    generalize (2 : Int) ^ bitI (l01V (wA w)).toNat (l01V (wB w)).toNat = bt at *
    have hg2 : goS n (W.drop (i + 1 + 2)) m2 = goS n (W.drop 2) 0 := by rw [show i + 1 + 2 = i + 2 + 1 by omega]; exact hg
    simp -dsimp -implicitDefEqProofs [hx1, hx3, hx4, hx5, hww, q2, hs2, rrE, k4', hE0, hE1, hE0i, hE1i, g0, g1, p0, p1, n1, n2, hpr, hbt, ho, hw]
    exact .mk (i + 1, m2) ⟨by simp only; omega, by simp only; omega, hg2⟩ (by simp only; omega) (Sub.keep (by simp) (by simp [hsub, rr0, r3]; simpa using ho) (by simp [hw]; omega))
  · have hi' : i + 2 = W.length := by omega
    rw [hi', List.drop_length, goS] at hg
    rw [← hg, Option.bind_some]
    have ht := sp_graphText_eq n m ⟨by omega, by omega⟩
    cases hq : (graphT n m == s) with
    | true =>
      have hq' : (graphT n m != s) = false := by unfold bne; rw [hq]; rfl
      simp -dsimp -implicitDefEqProofs [ht, hq', rgA]
    | false =>
      have hq' : (graphT n m != s) = true := by unfold bne; rw [hq]; rfl
      simp -dsimp -implicitDefEqProofs [ht, hq', rgA]
end Go.Proofs.YtjfoenibffdoeaaDoorAi
end

section
/- Plain law and law: ReadGraph. -/
namespace Go.Proofs.YtjfoenibffdoeaaDoorAi
open Go Go.RowKit
set_option linter.unusedVariables false
set_option linter.unusedSimpArgs false
set_option maxRecDepth 20000

def edgeW (x : Fr) : ByteArray := decB x.p ++ dashB ++ decB x.q
def tailT : List Fr → ByteArray
  | [] => noB
  | x :: L => sepB ++ edgeW x ++ tailT L
theorem app_noB (a : ByteArray) : a ++ noB = a := by apply ByteArray.ext; simp [noB]
theorem edT_tail : ∀ (L : List Fr) (w : ByteArray), edT w L = w ++ tailT L
  | [], w => by rw [tailT, app_noB]; rfl
  | x :: L, w => by
    show edT (w ++ edgeT x.p x.q) L = _
    rw [edT_tail L, tailT]
    unfold edgeT edgeW
    simp only [ByteArray.append_assoc]
theorem decB_bytes {n : Int} (h : 0 ≤ n) : ∀ b ∈ (decB n).data.toList, 48 ≤ b.toNat ∧ b.toNat ≤ 57 := by
  intro b hb
  have e : (decB n).data.toList = Go.Lib.itoa n := by simp [decB]
  rw [e] at hb
  unfold Go.Lib.itoa at hb
  rw [if_neg (by omega)] at hb
  exact decD_dig _ b hb
theorem decB_lacks {n : Int} (h : 0 ≤ n) {c : UInt8} (hc : c.toNat < 48) : lacks (decB n) c := by
  intro b hb e
  subst e
  have := (decB_bytes h b hb).1
  omega
theorem edgeW_lacks {x : Fr} (hp : 0 ≤ x.p) (hq : 0 ≤ x.q) : lacks (edgeW x) 32 := by
  intro b hb
  unfold edgeW at hb
  rw [ByteArray.data_append, ByteArray.data_append, Array.toList_append, Array.toList_append] at hb
  rcases List.mem_append.1 hb with hb | hb
  · rcases List.mem_append.1 hb with hb | hb
    · exact decB_lacks hp (c := 32) (by decide) b hb
    · have : b = 45 := by simpa [dashB] using hb
      subst this; decide
  · exact decB_lacks hq (c := 32) (by decide) b hb
theorem pieces_tail {Sp : ByteArray → List ByteArray} (hm : ∀ a, lacks a 32 → Sp a = [a]) (hh : ∀ a r, lacks a 32 → Sp (a ++ ⟨#[32]⟩ ++ r) = a :: Sp r) : ∀ (L : List Fr) (A : ByteArray), lacks A 32 → (∀ x ∈ L, lacks (edgeW x) 32) → Sp (A ++ tailT L) = A :: L.map edgeW
  | [], A, hA, _ => by rw [tailT, app_noB]; exact hm A hA
  | x :: L, A, hA, hL => by
    have e : A ++ tailT (x :: L) = A ++ ⟨#[32]⟩ ++ (edgeW x ++ tailT L) := by
      rw [tailT]; unfold sepB; simp only [ByteArray.append_assoc]
    rw [e, hh A _ hA, pieces_tail hm hh L (edgeW x) (hL x (List.mem_cons_self ..)) fun y hy => hL y (List.mem_cons_of_mem _ hy)]
    rfl
theorem l01_dec (n : Int) (h0 : 0 ≤ n) (h1 : n < 1000000000) : l01V (decB n) = n ∧ l01B (decB n) = true := by
  have h := wh_dec n h0 (by omega)
  unfold whV whB at h
  have hf : (decB n == billB) = false := by
    rw [ba_eq]
    refine decide_eq_false fun e => ?_
    have h2 := (num_dec n (by omega) (by omega)).1
    have h3 := (num_dec 1000000000 (by omega) (by omega)).1
    rw [decB_bill] at h3
    rw [e, h3] at h2
    omega
  rw [hf] at h
  simpa using h
/-- The pairs of a graph: the lesser vertex ahead. -/
theorem pairsE_lt (e : Int) : ∀ (j : Nat), ∀ x ∈ pairsE e j, 0 ≤ x.p ∧ x.p < x.q ∧ x.q < j
  | 0 => by intro x hx; cases hx
  | j + 1 => by
    intro x hx
    rw [pairsE] at hx
    rcases List.mem_append.1 hx with hx | hx
    · have := pairsE_lt e j x hx
      omega
    · unfold prE at hx
      obtain ⟨i, hi, rfl⟩ := List.mem_map.1 hx
      have := List.mem_range.1 (List.mem_filter.1 hi).1
      simp only
      omega
def orF (a : Nat) (L : List Fr) : Nat := L.foldl (fun a x => a ||| 2 ^ bitI x.p.toNat x.q.toNat) a
theorem orF_all : (∀ m : Fin 1, orF 0 (pairsE (m.val : Int) 0) = m.val) ∧ (∀ m : Fin 1, orF 0 (pairsE (m.val : Int) 1) = m.val) ∧ (∀ m : Fin 2, orF 0 (pairsE (m.val : Int) 2) = m.val) ∧ (∀ m : Fin 8, orF 0 (pairsE (m.val : Int) 3) = m.val) ∧ (∀ m : Fin 64, orF 0 (pairsE (m.val : Int) 4) = m.val) ∧ (∀ m : Fin 1024, orF 0 (pairsE (m.val : Int) 5) = m.val) := by decide +kernel
theorem orF_pairs {n m : Nat} (h : graphOk n m = true) : orF 0 (pairsE m n) = m := by
  have hn := graphOk_in h
  unfold graphOk at h
  have h2 := (of_decide_eq_true h).2
  have hn' : n = 0 ∨ n = 1 ∨ n = 2 ∨ n = 3 ∨ n = 4 ∨ n = 5 := by omega
  obtain ⟨a0, a1, a2, a3, a4, a5⟩ := orF_all
  rcases hn' with rfl | rfl | rfl | rfl | rfl | rfl
  · exact a0 ⟨m, by have := h2; simp [pairsI] at this; omega⟩
  · exact a1 ⟨m, by have := h2; simp [pairsI] at this; omega⟩
  · exact a2 ⟨m, by have := h2; rw [show pairsI ((2 : Nat) : Int) = 1 from pI2] at this; simp at this; omega⟩
  · exact a3 ⟨m, by have := h2; rw [show pairsI ((3 : Nat) : Int) = 3 from pI3] at this; simp at this; omega⟩
  · exact a4 ⟨m, by have := h2; rw [show pairsI ((4 : Nat) : Int) = 6 from pI4] at this; simp at this; omega⟩
  · exact a5 ⟨m, by have := h2; rw [show pairsI ((5 : Nat) : Int) = 10 from pI5] at this; simp at this; omega⟩
theorem edge_impl {n : Nat} (hn : n ≤ 5) {x : Fr} (h : 0 ≤ x.p ∧ x.p < x.q ∧ x.q < n) : edgeOk n (edgeW x) = true ∧ eA (edgeW x) = x.p ∧ eB (edgeW x) = x.q := by
  have hl : ∀ k, (decB k).data.toList = Go.Lib.itoa k := fun k => by simp [decB]
  have el : (edgeW x).data.toList = (decB x.p).data.toList ++ 45 :: (decB x.q).data.toList := by
    unfold edgeW
    rw [ByteArray.data_append, ByteArray.data_append, Array.toList_append, Array.toList_append]
    simp [dashB]
  have hc : Go.Lib.cut (edgeW x).data.toList dashB.data.toList = ((decB x.p).data.toList, (decB x.q).data.toList, true) := by
    unfold Go.Lib.cut
    have hi : Go.Lib.index (edgeW x).data.toList dashB.data.toList = ((decB x.p).data.toList).length := by
      rw [el]; exact index_atC 45 _ _ (decB_lacks h.1 (c := 45) (by decide))
    rw [hi, if_pos (by omega), el]
    have hs : dashB.data.toList.length = 1 := rfl
    rw [hs, Int.toNat_natCast]
    generalize (decB x.p).data.toList = la
    generalize (decB x.q).data.toList = lb
    simp
  have cA : cutA (edgeW x) dashB = decB x.p := by unfold cutA; rw [hc]
  have cB : cutB (edgeW x) dashB = decB x.q := by unfold cutB; rw [hc]
  have n1 := num_dec x.p (by omega) (by omega)
  have n2 := num_dec x.q (by omega) (by omega)
  have eAx : eA (edgeW x) = x.p := by unfold eA; rw [cA, n1.1]
  have eBx : eB (edgeW x) = x.q := by unfold eB; rw [cB, n2.1]
  refine ⟨?_, eAx, eBx⟩
  unfold edgeOk
  rw [eAx, eBx, cA, cB, n1.2, n2.2]
  unfold pairI
  simp; omega
theorem edge_spec {n : Nat} (hn : n ≤ 5) {x : Fr} (h : 0 ≤ x.p ∧ x.p < x.q ∧ x.q < n) : edgeS n (edgeW x) = true ∧ l01V (wA (edgeW x)) = x.p ∧ l01V (wB (edgeW x)) = x.q := by
  have hs : splitL (edgeW x) 45 = [decB x.p, decB x.q] := by
    have h1 := splitL_hit (decB_lacks h.1 (c := 45) (by decide)) (decB x.q)
    have h2 := splitL_miss (decB_lacks (n := x.q) (by omega) (c := 45) (by decide))
    have e45 : (((45 : UInt8).toNat : Nat) : Int) = 45 := rfl
    rw [e45] at h1 h2
    rw [h2] at h1
    exact h1
  have cA : wA (edgeW x) = decB x.p := by unfold wA; rw [hs]; rfl
  have cB : wB (edgeW x) = decB x.q := by unfold wB; rw [hs]; rfl
  have n1 := l01_dec x.p (by omega) (by omega)
  have n2 := l01_dec x.q (by omega) (by omega)
  refine ⟨?_, by rw [cA, n1.1], by rw [cB, n2.1]⟩
  unfold edgeS
  rw [hs, cA, cB, n1.1, n2.1, n1.2, n2.2]
  unfold pairI
  simp; omega
theorem goI_all {n : Nat} (hn : n ≤ 5) : ∀ (L : List Fr) (a : Nat), (∀ x ∈ L, 0 ≤ x.p ∧ x.p < x.q ∧ x.q < n) → goI n (L.map edgeW) a = some (orF a L)
  | [], a, _ => rfl
  | x :: L, a, h => by
    obtain ⟨h1, h2, h3⟩ := edge_impl hn (h x (List.mem_cons_self ..))
    rw [List.map_cons, goI, if_pos h1, h2, h3, goI_all hn L _ fun y hy => h y (List.mem_cons_of_mem _ hy)]
    rfl
theorem goS_all {n : Nat} (hn : n ≤ 5) : ∀ (L : List Fr) (a : Nat), (∀ x ∈ L, 0 ≤ x.p ∧ x.p < x.q ∧ x.q < n) → goS n (L.map edgeW) a = some (orF a L)
  | [], a, _ => rfl
  | x :: L, a, h => by
    obtain ⟨h1, h2, h3⟩ := edge_spec hn (h x (List.mem_cons_self ..))
    rw [List.map_cons, goS, if_pos h1, h2, h3, goS_all hn L _ fun y hy => h y (List.mem_cons_of_mem _ hy)]
    rfl
theorem reads_graph {n m : Nat} (h : graphOk n m = true) : rgO (grT m n) = some (n, m) ∧ rsO (grT m n) = some (n, m) := by
  have hn := graphOk_in h
  have hn5 : n ≤ 5 := by omega
  have hL := pairsE_lt m n
  have hor := orF_pairs h
  have eg : grT m n = graphB ++ (decB n ++ tailT (pairsE m n)) := by
    unfold grT; rw [edT_tail, ByteArray.append_assoc]
  have hlk : ∀ x ∈ pairsE m n, lacks (edgeW x) 32 := fun x hx => edgeW_lacks (by have := hL x hx; omega) (by have := hL x hx; omega)
  have hd : lacks (decB (n : Int)) 32 := decB_lacks (by omega) (by decide)
  have hgr : graphT n m = grT m n := by unfold graphT; rw [if_pos h, Int.toNat_natCast]
  have e32 : (((32 : UInt8).toNat : Nat) : Int) = 32 := rfl
  generalize hs : grT m n = s at *
  constructor
  · have el : s.data.toList = graphB.data.toList ++ (decB n ++ tailT (pairsE m n)).data.toList := by
      rw [eg, ByteArray.data_append, Array.toList_append]
    have hI : cpI s graphB = true := by
      unfold cpI Go.Lib.hasPrefix
      rw [el]; exact List.isPrefixOf_iff_prefix.2 (List.prefix_append _ _)
    have hA : cpA s graphB = decB n ++ tailT (pairsE m n) := by
      unfold cpA Go.Lib.trimPrefix
      have : Go.Lib.hasPrefix s.data.toList graphB.data.toList = true := hI
      rw [if_pos this, el, List.drop_left]
    have hW : wdI s = decB n :: (pairsE m n).map edgeW := by
      unfold wdI
      rw [hA]
      exact pieces_tail (Sp := fun s => piecesB s sepB) (fun a ha => pieces_miss ha) (fun a r ha => pieces_hit ha r) _ _ hd hlk
    have hh : hdI s = decB n := by unfold hdI; rw [hW]; rfl
    have hnum := num_dec n (by omega) (by omega)
    have hnI : nI s = (n : Int) := by unfold nI; rw [hh, hnum.1]
    have hok : okI s = true := by
      unfold okI
      rw [hI, hnI, hh, hnum.2]
      simp; omega
    unfold rgO
    rw [if_pos hok, hW, hnI, List.drop_succ_cons, List.drop_zero, goI_all hn5 _ _ hL, hor, Option.bind_some, Int.toNat_natCast, hs, beq_ba]
    rfl
  · have eg2 : s = gword ++ ⟨#[32]⟩ ++ (decB n ++ tailT (pairsE m n)) := by
      rw [eg]
      have : graphB = gword ++ ⟨#[32]⟩ := by apply ByteArray.ext; rfl
      rw [this]
    have hgl : lacks gword 32 := by
      intro b hb e
      subst e
      revert hb
      decide
    have hW : splitL s 32 = gword :: decB n :: (pairsE m n).map edgeW := by
      have h1 := splitL_hit hgl (decB n ++ tailT (pairsE m n))
      rw [e32, ← eg2] at h1
      rw [h1]
      congr 1
      exact pieces_tail (Sp := fun s => splitL s 32) (fun a ha => by have := splitL_miss ha; rw [e32] at this; exact this) (fun a r ha => by have := splitL_hit ha r; rw [e32] at this; exact this) _ _ hd hlk
    have h0 : h0S s = gword := by unfold h0S; rw [hW]; rfl
    have h1 : h1S s = decB n := by unfold h1S; rw [hW]; rfl
    have hnum := l01_dec n (by omega) (by omega)
    have hnS : nS s = (n : Int) := by unfold nS; rw [h1, hnum.1]
    have hok : okS s = true := by
      unfold okS
      rw [hW, h0, hnS, h1, hnum.2, beq_ba]
      simp; omega
    unfold rsO
    rw [if_pos hok, hW, hnS, List.drop_succ_cons, List.drop_succ_cons, List.drop_zero, goS_all hn5 _ _ hL, hor, Option.bind_some, Int.toNat_natCast, hgr, beq_ba]
    rfl
/-! ### agreement -/
theorem pairsE_mod (m b : Nat) : ∀ (j : Nat), j * (j - 1) / 2 ≤ b → j ≤ 5 → pairsE ((m % 2 ^ b : Nat) : Int) j = pairsE (m : Int) j
  | 0, _, _ => rfl
  | j + 1, hb, hj => by
    have h1 : j * (j - 1) / 2 ≤ b := by
      have : j = 0 ∨ j = 1 ∨ j = 2 ∨ j = 3 ∨ j = 4 := by omega
      rcases this with rfl | rfl | rfl | rfl | rfl <;> simp at hb ⊢ <;> omega
    rw [pairsE, pairsE, pairsE_mod m b j h1 (by omega)]
    congr 1
    unfold prE
    congr 1
    apply List.filter_congr
    intro i hi
    have hi := List.mem_range.1 hi
    unfold hasB
    rw [Int.toNat_natCast, Int.toNat_natCast, Nat.testBit_mod_two_pow]
    have : bitI ((i : Int)).toNat ((j : Int)).toNat < b := by
      rw [Int.toNat_natCast, Int.toNat_natCast]
      unfold bitI
      rw [if_pos hi]
      have : j = 0 ∨ j = 1 ∨ j = 2 ∨ j = 3 ∨ j = 4 := by omega
      rcases this with rfl | rfl | rfl | rfl | rfl <;> simp at hb ⊢ <;> omega
    simp only [Int.toNat_natCast] at this ⊢
    simp [this]
theorem grT_mod {n m : Nat} (hn : n ≤ 5) : ∃ k : Nat, graphOk n k = true ∧ grT k n = grT m n := by
  refine ⟨m % 2 ^ (pairsI n).toNat, ?_, ?_⟩
  · unfold graphOk
    refine decide_eq_true ⟨⟨by omega, by omega⟩, ?_⟩
    have := Nat.mod_lt m (Nat.two_pow_pos (pairsI n).toNat)
    exact_mod_cast this
  · unfold grT
    rw [pairsE_mod m _ n ?_ hn]
    have : n = 0 ∨ n = 1 ∨ n = 2 ∨ n = 3 ∨ n = 4 ∨ n = 5 := by omega
    rcases this with rfl | rfl | rfl | rfl | rfl | rfl <;> decide
theorem rgO_text {s : ByteArray} {n m : Nat} (h : rgO s = some (n, m)) : n ≤ 5 ∧ grT m n = s := by
  unfold rgO at h
  split at h
  · rename_i hok
    cases hg : goI (nI s) ((wdI s).drop 1) 0 with
    | none => rw [hg] at h; cases h
    | some k =>
      rw [hg, Option.bind_some] at h
      split at h
      · rename_i he
        rw [ba_eq, decide_eq_true_eq] at he
        injection h with h
        injection h with h1 h2
        subst h1; subst h2
        unfold okI at hok
        simp only [Bool.and_eq_true, decide_eq_true_eq] at hok
        exact ⟨by omega, he⟩
      · cases h
  · cases h
theorem rsO_text {s : ByteArray} {n m : Nat} (h : rsO s = some (n, m)) : graphOk n m = true ∧ grT m n = s := by
  unfold rsO at h
  split at h
  · rename_i hok
    cases hg : goS (nS s) ((splitL s 32).drop 2) 0 with
    | none => rw [hg] at h; cases h
    | some k =>
      rw [hg, Option.bind_some] at h
      split at h
      · rename_i he
        rw [ba_eq, decide_eq_true_eq] at he
        injection h with h
        injection h with h1 h2
        subst h1; subst h2
        have hpos : 0 ≤ nS s := by unfold nS; exact (l01V_in _).1
        have en : ((nS s).toNat : Int) = nS s := by omega
        rw [en]
        unfold graphT at he
        split at he
        · rename_i ho
          exact ⟨ho, he⟩
        · exfalso
          unfold okS at hok
          simp only [Bool.and_eq_true, decide_eq_true_eq] at hok
          have h2 := hok.1.1
          rw [← he] at h2
          have : (splitL noB 32).length = 1 := by decide
          omega
      · cases h
  · cases h
theorem graph_same (s : ByteArray) : rgO s = rsO s := by
  cases h1 : rgO s with
  | some p =>
    obtain ⟨n, m⟩ := p
    obtain ⟨hn, ht⟩ := rgO_text h1
    obtain ⟨k, hk, hkt⟩ := grT_mod (m := m) hn
    have := reads_graph hk
    rw [hkt, ht] at this
    rw [← h1, this.1, this.2]
  | none =>
    cases h2 : rsO s with
    | none => rfl
    | some p =>
      obtain ⟨n, m⟩ := p
      obtain ⟨ho, ht⟩ := rsO_text h2
      have := reads_graph ho
      rw [ht, h1] at this
      cases this.1
theorem law_readGraph (xs : List AV) (h : WtA [.str] xs) : T PP 11 xs .nil fun r _ => r = .bool true := by
  simp only [WtA_cons, WtA_nil] at h
  obtain ⟨x, _, rfl, hx, rfl⟩ := h
  obtain ⟨s, rfl, hs⟩ := (WtV_str x).1 hx
  refine (P_code (r := .bool true) (Quiet.q1 q_spec_ReadGraph (Quiet.q1 q_impl_ReadGraph (Quiet.q1 q_laws_eqGraph Quiet.nil))) hmix k_laws_FnExactReadGraph rfl rfl ?_).mono fun r A' h => h.1
  by_cases c : (1048576 : Int) < s.size
  · simp -dsimp -implicitDefEqProofs [c_laws_FnExactReadGraph, r_laws_FnExactReadGraph, c]
  · have hr := sp_readGr_eq s (by omega)
    have hr2 := sp_readGrS_eq s (by omega)
    rw [graph_same s] at hr
    cases ho : rsO s with
    | none =>
      rw [ho] at hr hr2
      simp -dsimp -implicitDefEqProofs [c_laws_FnExactReadGraph, r_laws_FnExactReadGraph, c, hr, hr2, rgA]
    | some p =>
      obtain ⟨n, m⟩ := p
      rw [ho] at hr hr2
      simp -dsimp -implicitDefEqProofs [c_laws_FnExactReadGraph, r_laws_FnExactReadGraph, c, hr, hr2, rgA]
end Go.Proofs.YtjfoenibffdoeaaDoorAi
end
