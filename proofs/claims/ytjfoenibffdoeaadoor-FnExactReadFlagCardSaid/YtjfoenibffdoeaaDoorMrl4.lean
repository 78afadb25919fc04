/- Contracts, joined. -/
import Derived.Test.YtjfoenibffdoeaaDoorMrl3
import Derived.Test.YtjfoenibffdoeaaDoorAiX
import Derived.Test.YtjfoenibffdoeaaDoorProg
section
/- Contracts: ReadGraph of the reference. -/
namespace Go.Proofs.YtjfoenibffdoeaaDoorAi
open Go Go.RowKit
set_option linter.unusedVariables false
set_option linter.unusedSimpArgs false
set_option maxRecDepth 20000

def wA (w : ByteArray) : ByteArray := (splitL w 45)[0]?.getD noB
def wB (w : ByteArray) : ByteArray := (splitL w 45)[1]?.getD noB
def edgeS (n : Int) (w : ByteArray) : Bool := decide ((splitL w 45).length = 2) && ((l01B (wA w) && l01B (wB w)) && pairI n (l01V (wA w)) (l01V (wB w)))
def goS (n : Int) : List ByteArray → Nat → Option Nat
  | [], m => some m
  | w :: r, m => if edgeS n w = true then goS n r (m ||| 2 ^ bitI (l01V (wA w)).toNat (l01V (wB w)).toNat) else none
def gword : ByteArray := ⟨#[103, 114, 97, 112, 104]⟩
def h0S (s : ByteArray) : ByteArray := (splitL s 32)[0]?.getD noB
def h1S (s : ByteArray) : ByteArray := (splitL s 32)[1]?.getD noB
def nS (s : ByteArray) : Int := l01V (h1S s)
def okS (s : ByteArray) : Bool := (decide (2 ≤ (splitL s 32).length) && (h0S s == gword)) && (l01B (h1S s) && decide (nS s ≤ 5))
def rsO (s : ByteArray) : Option (Nat × Nat) := if okS s = true then (goS (nS s) ((splitL s 32).drop 2) 0).bind fun m => if (graphT (nS s) m == s) = true then some ((nS s).toNat, m) else none else none
noncomputable def sp_readGrS : List AV → Option (AV) := pf (ι := (ByteArray)) (α := AV) (fun s => s.size ≤ 1048576) (fun s => [.str s]) (fun s => rgA (rsO s))
theorem sp_readGrS_eq (s : ByteArray) (h : s.size ≤ 1048576) : sp_readGrS [.str s] = some (rgA (rsO s)) := by
  unfold sp_readGrS
  exact pf_eq (ι := (ByteArray)) (α := AV) s h (by rintro s' _ e; simp_all [Int.natCast_inj])
set_option maxHeartbeats 4000000 in
theorem q_spec_ReadGraph : QP PP 43 sp_readGrS := by
  refine QP_pf (fun s h => ?_) fun s h => ?_
  · exact ⟨by first | rfl | simp, by first | rfl | simp⟩
  replace h : s.size ≤ 1048576 := h
  refine P_code (Quiet.q1 q_spec_l01Number (Quiet.q1 q_spec_l01Pair (Quiet.q1 q_spec_l01Bit (Quiet.q1 q_spec_GraphText (Quiet.e1 n_spec_l01Split.toE Quiet.nil))))) hmix k_spec_ReadGraph rfl ?_ ?_
  · first | rfl | simp
  show wpc 0 PP _ c_spec_ReadGraph (initSt [.str s] .nil) (endP r_spec_ReadGraph (rgA (rsO s)))
  have hsp := sp_split_eq s 32 ⟨h, by omega, by omega⟩
  rw [flat_strs] at hsp
  have hne : splitL s 32 ≠ [] := (splF_len s 32 _ _ _ _).2
  have hlenm := (splF_len s 32 s.size 0 0 []).1
  have hlen : 0 < (splitL s 32).length := List.length_pos_iff.2 hne
  have hmost : (splitL s 32).length ≤ 1048577 := by
    have : (splitL s 32).length ≤ 0 + s.size + 1 := hlenm
    omega
  have hleni : (0 : Int) < (splitL s 32).length := by omega
  have e0 : (splitL s 32)[0]'hlen = h0S s := by unfold h0S; rw [List.getElem?_eq_getElem hlen]; rfl
  have hsz : ∀ w ∈ splitL s 32, w.size ≤ 1048576 := fun w hw => by have := splitL_size s 32 w hw; omega
  have e1 : ∀ hl : 1 < (splitL s 32).length, (splitL s 32)[1]'hl = h1S s := fun hl => by unfold h1S; rw [List.getElem?_eq_getElem hl]; rfl
  unfold rsO
  by_cases h2 : 2 ≤ (splitL s 32).length
  rotate_left
  · have : okS s = false := by unfold okS; rw [decide_eq_false h2]; rfl
    rw [this]
    generalize splitL s 32 = W at *
    have rr : renL (shiftN 1) (strsA W) = strsA W := by rw [← flat_strs]; simp
    have h2' : (W.length : Int) < 2 := by omega
    have h2n : W.length < 2 := by omega
    simp -dsimp -implicitDefEqProofs [c_spec_ReadGraph, r_spec_ReadGraph, hsp, rr, h2', h2n, rgA]
  have hl1 : 1 < (splitL s 32).length := by omega
  have e1' := e1 hl1
  have hz1 : (h1S s).size ≤ 1048576 := by rw [← e1']; exact hsz _ (List.getElem_mem hl1)
  have hnum := sp_l01Num_eq (h1S s) hz1
  have hpos := l01V_in (h1S s)
  have hgw : (h0S s != (⟨#[103, 114, 97, 112, 104]⟩ : ByteArray)) = !(h0S s == gword) := rfl
  have okE : okS s = ((h0S s == gword) && (l01B (h1S s) && decide (nS s ≤ 5))) := by unfold okS; rw [decide_eq_true h2, Bool.true_and]
  rw [okE]
  generalize hW : splitL s 32 = W at *
  have r3 : ltL 3 (strsA W) = true := by rw [← flat_strs]; simp
  have rr0 : renL (fun b => b) (strsA W) = strsA W := by rw [← flat_strs]; simp
  have rr : renL (shiftN 1) (strsA W) = strsA W := by rw [← flat_strs]; simp
  have h2' : ¬ (W.length : Int) < 2 := by omega
  have h2n : ¬ W.length < 2 := by omega
  have q0 : W[0]? = some (h0S s) := by rw [List.getElem?_eq_getElem hlen, e0]
  have q1 : W[1]? = some (h1S s) := by rw [List.getElem?_eq_getElem hl1, e1']
  have hl1i : (1 : Int) < W.length := by omega
  cases k1 : (h0S s == gword) <;> rw [k1] at hgw
  · simp -dsimp -implicitDefEqProofs [c_spec_ReadGraph, r_spec_ReadGraph, hsp, rr, h2', h2n, hlen, hleni, e0, q0, hgw, rgA]
  cases k2 : l01B (h1S s) <;> rw [k2] at hnum
  · simp -dsimp -implicitDefEqProofs [c_spec_ReadGraph, r_spec_ReadGraph, hsp, rr, h2', h2n, hlen, hleni, hl1, hl1i, e0, e1', q0, q1, hgw, hnum, rgA]
  by_cases k3 : nS s ≤ 5
  rotate_left
  · have k3' : 5 < l01V (h1S s) := by unfold nS at k3; omega
    simp -dsimp -implicitDefEqProofs [c_spec_ReadGraph, r_spec_ReadGraph, hsp, rr, h2', h2n, hlen, hleni, hl1, hl1i, e0, e1', q0, q1, hgw, hnum, k3, k3', rgA]
  have k3' : ¬ 5 < l01V (h1S s) := by unfold nS at k3; omega
  obtain ⟨n, hn⟩ := Int.eq_ofNat_of_zero_le hpos.1
  have hnS : nS s = (n : Int) := hn
  have hn5 : n ≤ 5 := by omega
  rw [hnS] at k3 ⊢
  rw [hn] at hnum k3'
  simp -dsimp -implicitDefEqProofs [c_spec_ReadGraph, r_spec_ReadGraph, hsp, rr, h2', h2n, hlen, hleni, hl1, hl1i, e0, e1', q0, q1, hgw, hnum, k3, k3', hn5]
  refine wpLoop_st (fun (q : Nat × Nat) => ⟨tl [(0, .str s), (2, .ptr 0 0), (4, .ref 1 1 0 W.length .full), (5, .int .i64 n), (7, .ptr 2 0), (8, .int .i64 ((q.1 : Int) + 2))], ⟨[some [.int .i64 0, .int .u32 0], some (strsA W), some [.int .i64 n, .int .u32 q.2]]⟩⟩) (fun q => q.1 + 2 ≤ W.length ∧ q.2 < 1024 ∧ goS n (W.drop (q.1 + 2)) q.2 = goS n (W.drop 2) 0) (fun q => W.length - q.1) (0, 0) ⟨by simp only; omega, by simp, rfl⟩ (Sub.keep (by simp) (by simp [hsub, rr0, r3]) (by simp)) ?_
  rintro ⟨i, m⟩ ⟨hi, hm, hg⟩
  simp only at hi hm hg
  simp -dsimp -implicitDefEqProofs
  refine brW_of (fun h => ?_) (fun h => ?_) <;> simp only [decide_eq_true_eq, decide_eq_false_iff_not] at h
  · have hx1 : i + 2 < W.length := by omega
    have hx3 : (i : Int) + 2 < W.length := by omega
    have hx4 : (0 : Int) ≤ (i : Int) + 2 := by omega
    have hx5 : ((i : Int) + 2).toNat = i + 2 := by omega
    have hw : IntKind.wrap .i64 ((i : Int) + 2 + 1) = (i : Int) + 2 + 1 := wrapI64 (by omega) (by omega)
    have hwsz := hsz _ (List.getElem_mem hx1)
    rw [drop_cons hx1, goS] at hg
    have q2 : W[i + 2]? = some W[i + 2] := List.getElem?_eq_getElem hx1
    generalize hww : W[i + 2] = w at *
    have hs2 := sp_split_eq w 45 ⟨hwsz, by omega, by omega⟩
    rw [flat_strs] at hs2
    have hz2 := splitL_size w 45
    have f0 : wA w = (splitL w 45)[0]?.getD noB := rfl
    have f1 : wB w = (splitL w 45)[1]?.getD noB := rfl
    have ke : edgeS n w = (decide ((splitL w 45).length = 2) && ((l01B (wA w) && l01B (wB w)) && pairI n (l01V (wA w)) (l01V (wB w)))) := rfl
    generalize splitL w 45 = E at *
    have rrE : renL (shiftN 3) (strsA E) = strsA E := by rw [← flat_strs]; simp
    by_cases k4 : E.length = 2
    rotate_left
    · have k4' : ((E.length : Int) != 2) = true := by simp; omega
      rw [decide_eq_false k4, Bool.false_and] at ke
      rw [ke] at hg
      simp only [Bool.false_eq_true, if_false] at hg
      rw [← hg]
      simp -dsimp -implicitDefEqProofs [hx1, hx3, hx4, hx5, hww, q2, hs2, rrE, k4', rgA]
    have k4' : ((E.length : Int) != 2) = false := by simp; omega
    rw [decide_eq_true k4, Bool.true_and] at ke
    have hE0 : 0 < E.length := by omega
    have hE1 : 1 < E.length := by omega
    have hE0i : (0 : Int) < E.length := by omega
    have hE1i : (1 : Int) < E.length := by omega
    have g0 : E[0] = wA w := by rw [f0, List.getElem?_eq_getElem hE0]; rfl
    have g1 : E[1] = wB w := by rw [f1, List.getElem?_eq_getElem hE1]; rfl
    have p0 : E[0]? = some (wA w) := by rw [List.getElem?_eq_getElem hE0, g0]
    have p1 : E[1]? = some (wB w) := by rw [List.getElem?_eq_getElem hE1, g1]
    have zA := hz2 _ (List.getElem_mem hE0)
    have zB := hz2 _ (List.getElem_mem hE1)
    rw [g0] at zA
    rw [g1] at zB
    have n1 := sp_l01Num_eq (wA w) (by omega)
    have n2 := sp_l01Num_eq (wB w) (by omega)
    have hpr := sp_pairI_eq n (l01V (wA w)) (l01V (wB w)) (by omega)
    cases k5 : l01B (wA w) <;> rw [k5] at n1 ke
    · rw [Bool.false_and, Bool.false_and] at ke
      rw [ke] at hg
      simp only [Bool.false_eq_true, if_false] at hg
      rw [← hg]
      simp -dsimp -implicitDefEqProofs [hx1, hx3, hx4, hx5, hww, q2, hs2, rrE, k4', hE0, hE1, hE0i, hE1i, g0, g1, p0, p1, n1, n2, rgA]
    cases k6 : l01B (wB w) <;> rw [k6] at n2 ke
    · rw [Bool.and_false, Bool.false_and] at ke
      rw [ke] at hg
      simp only [Bool.false_eq_true, if_false] at hg
      rw [← hg]
      simp -dsimp -implicitDefEqProofs [hx1, hx3, hx4, hx5, hww, q2, hs2, rrE, k4', hE0, hE1, hE0i, hE1i, g0, g1, p0, p1, n1, n2, rgA]
    cases k7 : pairI n (l01V (wA w)) (l01V (wB w)) <;> rw [k7] at hpr ke
    · rw [Bool.and_false] at ke
      rw [ke] at hg
      simp only [Bool.false_eq_true, if_false] at hg
      rw [← hg]
      simp -dsimp -implicitDefEqProofs [hx1, hx3, hx4, hx5, hww, q2, hs2, rrE, k4', hE0, hE1, hE0i, hE1i, g0, g1, p0, p1, n1, n2, hpr, rgA]
    rw [if_pos (by rw [ke]; rfl)] at hg
    have hin := pairI_in (by omega) k7
    have hbt := sp_bit_eq (l01V (wA w)) (l01V (wB w)) ⟨by omega, by omega⟩
    have hsm := bit_small hin
    have ho := or32 (a := m) (b := 2 ^ bitI (l01V (wA w)).toNat (l01V (wB w)).toNat) (by omega) (by omega)
    have hcast : ((2 ^ bitI (l01V (wA w)).toNat (l01V (wB w)).toNat : Nat) : Int) = 2 ^ bitI (l01V (wA w)).toNat (l01V (wB w)).toNat := by simp
    rw [hcast] at ho
    have hlt : m ||| 2 ^ bitI (l01V (wA w)).toNat (l01V (wB w)).toNat < 1024 := Nat.or_lt_two_pow (n := 10) hm hsm
    generalize hE : (m ||| 2 ^ bitI (l01V (wA w)).toNat (l01V (wB w)).toNat) = m2 at *
    generalize (2 : Int) ^ bitI (l01V (wA w)).toNat (l01V (wB w)).toNat = bt at *
    have hg2 : goS n (W.drop (i + 1 + 2)) m2 = goS n (W.drop 2) 0 := by rw [show i + 1 + 2 = i + 2 + 1 by omega]; exact hg
    simp -dsimp -implicitDefEqProofs [hx1, hx3, hx4, hx5, hww, q2, hs2, rrE, k4', hE0, hE1, hE0i, hE1i, g0, g1, p0, p1, n1, n2, hpr, hbt, ho, hw]
    exact .mk (i + 1, m2) ⟨by simp only; omega, by simp only; omega, hg2⟩ (by simp only; omega) (Sub.keep (by simp) (by simp [hsub, rr0, r3]; simpa using ho) (by simp [hw]; omega))
  · have hi' : i + 2 = W.length := by omega
    rw [hi', List.drop_length, goS] at hg
    rw [← hg, Option.bind_some]
    have ht := sp_graphText_eq n m ⟨by omega, by omega⟩
    cases hq : (graphT n m == s) with
    | true =>
      have hq' : (graphT n m != s) = false := by unfold bne; rw [hq]; rfl
      simp -dsimp -implicitDefEqProofs [ht, hq', rgA]
    | false =>
      have hq' : (graphT n m != s) = true := by unfold bne; rw [hq]; rfl
      simp -dsimp -implicitDefEqProofs [ht, hq', rgA]
end Go.Proofs.YtjfoenibffdoeaaDoorAi
end

section
/- Plain law and law: ReadGraph. -/
namespace Go.Proofs.YtjfoenibffdoeaaDoorAi
open Go Go.RowKit
set_option linter.unusedVariables false
set_option linter.unusedSimpArgs false
set_option maxRecDepth 20000

def edgeW (x : Fr) : ByteArray := decB x.p ++ dashB ++ decB x.q
def tailT : List Fr → ByteArray
  | [] => noB
  | x :: L => sepB ++ edgeW x ++ tailT L
theorem app_noB (a : ByteArray) : a ++ noB = a := by apply ByteArray.ext; simp [noB]
theorem edT_tail : ∀ (L : List Fr) (w : ByteArray), edT w L = w ++ tailT L
  | [], w => by rw [tailT, app_noB]; rfl
  | x :: L, w => by
    show edT (w ++ edgeT x.p x.q) L = _
    rw [edT_tail L, tailT]
    unfold edgeT edgeW
    simp only [ByteArray.append_assoc]
theorem decB_bytes {n : Int} (h : 0 ≤ n) : ∀ b ∈ (decB n).data.toList, 48 ≤ b.toNat ∧ b.toNat ≤ 57 := by
  intro b hb
  have e : (decB n).data.toList = Go.Lib.itoa n := by simp [decB]
  rw [e] at hb
  unfold Go.Lib.itoa at hb
  rw [if_neg (by omega)] at hb
  exact decD_dig _ b hb
theorem decB_lacks {n : Int} (h : 0 ≤ n) {c : UInt8} (hc : c.toNat < 48) : lacks (decB n) c := by
  intro b hb e
  subst e
  have := (decB_bytes h b hb).1
  omega
theorem edgeW_lacks {x : Fr} (hp : 0 ≤ x.p) (hq : 0 ≤ x.q) : lacks (edgeW x) 32 := by
  intro b hb
  unfold edgeW at hb
  rw [ByteArray.data_append, ByteArray.data_append, Array.toList_append, Array.toList_append] at hb
  rcases List.mem_append.1 hb with hb | hb
  · rcases List.mem_append.1 hb with hb | hb
    · exact decB_lacks hp (c := 32) (by decide) b hb
    · have : b = 45 := by simpa [dashB] using hb
      subst this; decide
  · exact decB_lacks hq (c := 32) (by decide) b hb
theorem pieces_tail {Sp : ByteArray → List ByteArray} (hm : ∀ a, lacks a 32 → Sp a = [a]) (hh : ∀ a r, lacks a 32 → Sp (a ++ ⟨#[32]⟩ ++ r) = a :: Sp r) : ∀ (L : List Fr) (A : ByteArray), lacks A 32 → (∀ x ∈ L, lacks (edgeW x) 32) → Sp (A ++ tailT L) = A :: L.map edgeW
  | [], A, hA, _ => by rw [tailT, app_noB]; exact hm A hA
  | x :: L, A, hA, hL => by
    have e : A ++ tailT (x :: L) = A ++ ⟨#[32]⟩ ++ (edgeW x ++ tailT L) := by
      rw [tailT]; unfold sepB; simp only [ByteArray.append_assoc]
    rw [e, hh A _ hA, pieces_tail hm hh L (edgeW x) (hL x (List.mem_cons_self ..)) fun y hy => hL y (List.mem_cons_of_mem _ hy)]
    rfl
theorem l01_dec (n : Int) (h0 : 0 ≤ n) (h1 : n < 1000000000) : l01V (decB n) = n ∧ l01B (decB n) = true := by
  have h := wh_dec n h0 (by omega)
  unfold whV whB at h
  have hf : (decB n == billB) = false := by
    rw [ba_eq]
    refine decide_eq_false fun e => ?_
    have h2 := (num_dec n (by omega) (by omega)).1
    have h3 := (num_dec 1000000000 (by omega) (by omega)).1
    rw [decB_bill] at h3
    rw [e, h3] at h2
    omega
  rw [hf] at h
  simpa using h
/-- The pairs of a graph: the lesser vertex ahead. -/
theorem pairsE_lt (e : Int) : ∀ (j : Nat), ∀ x ∈ pairsE e j, 0 ≤ x.p ∧ x.p < x.q ∧ x.q < j
  | 0 => by intro x hx; cases hx
  | j + 1 => by
    intro x hx
    rw [pairsE] at hx
    rcases List.mem_append.1 hx with hx | hx
    · have := pairsE_lt e j x hx
      omega
    · unfold prE at hx
      obtain ⟨i, hi, rfl⟩ := List.mem_map.1 hx
      have := List.mem_range.1 (List.mem_filter.1 hi).1
      simp only
      omega
def orF (a : Nat) (L : List Fr) : Nat := L.foldl (fun a x => a ||| 2 ^ bitI x.p.toNat x.q.toNat) a
theorem orF_all : (∀ m : Fin 1, orF 0 (pairsE (m.val : Int) 0) = m.val) ∧ (∀ m : Fin 1, orF 0 (pairsE (m.val : Int) 1) = m.val) ∧ (∀ m : Fin 2, orF 0 (pairsE (m.val : Int) 2) = m.val) ∧ (∀ m : Fin 8, orF 0 (pairsE (m.val : Int) 3) = m.val) ∧ (∀ m : Fin 64, orF 0 (pairsE (m.val : Int) 4) = m.val) ∧ (∀ m : Fin 1024, orF 0 (pairsE (m.val : Int) 5) = m.val) := by decide +kernel
theorem orF_pairs {n m : Nat} (h : graphOk n m = true) : orF 0 (pairsE m n) = m := by
  have hn := graphOk_in h
  unfold graphOk at h
  have h2 := (of_decide_eq_true h).2
  have hn' : n = 0 ∨ n = 1 ∨ n = 2 ∨ n = 3 ∨ n = 4 ∨ n = 5 := by omega
  obtain ⟨a0, a1, a2, a3, a4, a5⟩ := orF_all
  rcases hn' with rfl | rfl | rfl | rfl | rfl | rfl
  · exact a0 ⟨m, by have := h2; simp [pairsI] at this; omega⟩
  · exact a1 ⟨m, by have := h2; simp [pairsI] at this; omega⟩
  · exact a2 ⟨m, by have := h2; rw [show pairsI ((2 : Nat) : Int) = 1 from pI2] at this; simp at this; omega⟩
  · exact a3 ⟨m, by have := h2; rw [show pairsI ((3 : Nat) : Int) = 3 from pI3] at this; simp at this; omega⟩
  · exact a4 ⟨m, by have := h2; rw [show pairsI ((4 : Nat) : Int) = 6 from pI4] at this; simp at this; omega⟩
  · exact a5 ⟨m, by have := h2; rw [show pairsI ((5 : Nat) : Int) = 10 from pI5] at this; simp at this; omega⟩
theorem edge_impl {n : Nat} (hn : n ≤ 5) {x : Fr} (h : 0 ≤ x.p ∧ x.p < x.q ∧ x.q < n) : edgeOk n (edgeW x) = true ∧ eA (edgeW x) = x.p ∧ eB (edgeW x) = x.q := by
  have hl : ∀ k, (decB k).data.toList = Go.Lib.itoa k := fun k => by simp [decB]
  have el : (edgeW x).data.toList = (decB x.p).data.toList ++ 45 :: (decB x.q).data.toList := by
    unfold edgeW
    rw [ByteArray.data_append, ByteArray.data_append, Array.toList_append, Array.toList_append]
    simp [dashB]
  have hc : Go.Lib.cut (edgeW x).data.toList dashB.data.toList = ((decB x.p).data.toList, (decB x.q).data.toList, true) := by
    unfold Go.Lib.cut
    have hi : Go.Lib.index (edgeW x).data.toList dashB.data.toList = ((decB x.p).data.toList).length := by
      rw [el]; exact index_atC 45 _ _ (decB_lacks h.1 (c := 45) (by decide))
    rw [hi, if_pos (by omega), el]
    have hs : dashB.data.toList.length = 1 := rfl
    rw [hs, Int.toNat_natCast]
    generalize (decB x.p).data.toList = la
    generalize (decB x.q).data.toList = lb
    simp
  have cA : cutA (edgeW x) dashB = decB x.p := by unfold cutA; rw [hc]
  have cB : cutB (edgeW x) dashB = decB x.q := by unfold cutB; rw [hc]
  have n1 := num_dec x.p (by omega) (by omega)
  have n2 := num_dec x.q (by omega) (by omega)
  have eAx : eA (edgeW x) = x.p := by unfold eA; rw [cA, n1.1]
  have eBx : eB (edgeW x) = x.q := by unfold eB; rw [cB, n2.1]
  refine ⟨?_, eAx, eBx⟩
  unfold edgeOk
  rw [eAx, eBx, cA, cB, n1.2, n2.2]
  unfold pairI
  simp; omega
theorem edge_spec {n : Nat} (hn : n ≤ 5) {x : Fr} (h : 0 ≤ x.p ∧ x.p < x.q ∧ x.q < n) : edgeS n (edgeW x) = true ∧ l01V (wA (edgeW x)) = x.p ∧ l01V (wB (edgeW x)) = x.q := by
  have hs : splitL (edgeW x) 45 = [decB x.p, decB x.q] := by
    have h1 := splitL_hit (decB_lacks h.1 (c := 45) (by decide)) (decB x.q)
    have h2 := splitL_miss (decB_lacks (n := x.q) (by omega) (c := 45) (by decide))
    have e45 : (((45 : UInt8).toNat : Nat) : Int) = 45 := rfl
    rw [e45] at h1 h2
    rw [h2] at h1
    exact h1
  have cA : wA (edgeW x) = decB x.p := by unfold wA; rw [hs]; rfl
  have cB : wB (edgeW x) = decB x.q := by unfold wB; rw [hs]; rfl
  have n1 := l01_dec x.p (by omega) (by omega)
  have n2 := l01_dec x.q (by omega) (by omega)
  refine ⟨?_, by rw [cA, n1.1], by rw [cB, n2.1]⟩
  unfold edgeS
  rw [hs, cA, cB, n1.1, n2.1, n1.2, n2.2]
  unfold pairI
  simp; omega
theorem goI_all {n : Nat} (hn : n ≤ 5) : ∀ (L : List Fr) (a : Nat), (∀ x ∈ L, 0 ≤ x.p ∧ x.p < x.q ∧ x.q < n) → goI n (L.map edgeW) a = some (orF a L)
  | [], a, _ => rfl
  | x :: L, a, h => by
    obtain ⟨h1, h2, h3⟩ := edge_impl hn (h x (List.mem_cons_self ..))
    rw [List.map_cons, goI, if_pos h1, h2, h3, goI_all hn L _ fun y hy => h y (List.mem_cons_of_mem _ hy)]
    rfl
theorem goS_all {n : Nat} (hn : n ≤ 5) : ∀ (L : List Fr) (a : Nat), (∀ x ∈ L, 0 ≤ x.p ∧ x.p < x.q ∧ x.q < n) → goS n (L.map edgeW) a = some (orF a L)
  | [], a, _ => rfl
  | x :: L, a, h => by
    obtain ⟨h1, h2, h3⟩ := edge_spec hn (h x (List.mem_cons_self ..))
    rw [List.map_cons, goS, if_pos h1, h2, h3, goS_all hn L _ fun y hy => h y (List.mem_cons_of_mem _ hy)]
    rfl
theorem reads_graph {n m : Nat} (h : graphOk n m = true) : rgO (grT m n) = some (n, m) ∧ rsO (grT m n) = some (n, m) := by
  have hn := graphOk_in h
  have hn5 : n ≤ 5 := by omega
  have hL := pairsE_lt m n
  have hor := orF_pairs h
  have eg : grT m n = graphB ++ (decB n ++ tailT (pairsE m n)) := by
    unfold grT; rw [edT_tail, ByteArray.append_assoc]
  have hlk : ∀ x ∈ pairsE m n, lacks (edgeW x) 32 := fun x hx => edgeW_lacks (by have := hL x hx; omega) (by have := hL x hx; omega)
  have hd : lacks (decB (n : Int)) 32 := decB_lacks (by omega) (by decide)
  have hgr : graphT n m = grT m n := by unfold graphT; rw [if_pos h, Int.toNat_natCast]
  have e32 : (((32 : UInt8).toNat : Nat) : Int) = 32 := rfl
  generalize hs : grT m n = s at *
  constructor
  · have el : s.data.toList = graphB.data.toList ++ (decB n ++ tailT (pairsE m n)).data.toList := by
      rw [eg, ByteArray.data_append, Array.toList_append]
    have hI : cpI s graphB = true := by
      unfold cpI Go.Lib.hasPrefix
      rw [el]; exact List.isPrefixOf_iff_prefix.2 (List.prefix_append _ _)
    have hA : cpA s graphB = decB n ++ tailT (pairsE m n) := by
      unfold cpA Go.Lib.trimPrefix
      have : Go.Lib.hasPrefix s.data.toList graphB.data.toList = true := hI
      rw [if_pos this, el, List.drop_left]
    have hW : wdI s = decB n :: (pairsE m n).map edgeW := by
      unfold wdI
      rw [hA]
      exact pieces_tail (Sp := fun s => piecesB s sepB) (fun a ha => pieces_miss ha) (fun a r ha => pieces_hit ha r) _ _ hd hlk
    have hh : hdI s = decB n := by unfold hdI; rw [hW]; rfl
    have hnum := num_dec n (by omega) (by omega)
    have hnI : nI s = (n : Int) := by unfold nI; rw [hh, hnum.1]
    have hok : okI s = true := by
      unfold okI
      rw [hI, hnI, hh, hnum.2]
      simp; omega
    unfold rgO
    rw [if_pos hok, hW, hnI, List.drop_succ_cons, List.drop_zero, goI_all hn5 _ _ hL, hor, Option.bind_some, Int.toNat_natCast, hs, beq_ba]
    rfl
  · have eg2 : s = gword ++ ⟨#[32]⟩ ++ (decB n ++ tailT (pairsE m n)) := by
      rw [eg]
      have : graphB = gword ++ ⟨#[32]⟩ := by apply ByteArray.ext; rfl
      rw [this]
    have hgl : lacks gword 32 := by
      intro b hb e
      subst e
      revert hb
      decide
    have hW : splitL s 32 = gword :: decB n :: (pairsE m n).map edgeW := by
      have h1 := splitL_hit hgl (decB n ++ tailT (pairsE m n))
      rw [e32, ← eg2] at h1
      rw [h1]
      congr 1
      exact pieces_tail (Sp := fun s => splitL s 32) (fun a ha => by have := splitL_miss ha; rw [e32] at this; exact this) (fun a r ha => by have := splitL_hit ha r; rw [e32] at this; exact this) _ _ hd hlk
    have h0 : h0S s = gword := by unfold h0S; rw [hW]; rfl
    have h1 : h1S s = decB n := by unfold h1S; rw [hW]; rfl
    have hnum := l01_dec n (by omega) (by omega)
    have hnS : nS s = (n : Int) := by unfold nS; rw [h1, hnum.1]
    have hok : okS s = true := by
      unfold okS
      rw [hW, h0, hnS, h1, hnum.2, beq_ba]
      simp; omega
    unfold rsO
    rw [if_pos hok, hW, hnS, List.drop_succ_cons, List.drop_succ_cons, List.drop_zero, goS_all hn5 _ _ hL, hor, Option.bind_some, Int.toNat_natCast, hgr, beq_ba]
    rfl
/-! ### agreement -/
theorem pairsE_mod (m b : Nat) : ∀ (j : Nat), j * (j - 1) / 2 ≤ b → j ≤ 5 → pairsE ((m % 2 ^ b : Nat) : Int) j = pairsE (m : Int) j
  | 0, _, _ => rfl
  | j + 1, hb, hj => by
    have h1 : j * (j - 1) / 2 ≤ b := by
      have : j = 0 ∨ j = 1 ∨ j = 2 ∨ j = 3 ∨ j = 4 := by omega
      rcases this with rfl | rfl | rfl | rfl | rfl <;> simp at hb ⊢ <;> omega
    rw [pairsE, pairsE, pairsE_mod m b j h1 (by omega)]
    congr 1
    unfold prE
    congr 1
    apply List.filter_congr
    intro i hi
    have hi := List.mem_range.1 hi
    unfold hasB
    rw [Int.toNat_natCast, Int.toNat_natCast, Nat.testBit_mod_two_pow]
    have : bitI ((i : Int)).toNat ((j : Int)).toNat < b := by
      rw [Int.toNat_natCast, Int.toNat_natCast]
      unfold bitI
      rw [if_pos hi]
      have : j = 0 ∨ j = 1 ∨ j = 2 ∨ j = 3 ∨ j = 4 := by omega
      rcases this with rfl | rfl | rfl | rfl | rfl <;> simp at hb ⊢ <;> omega
    simp only [Int.toNat_natCast] at this ⊢
    simp [this]
theorem grT_mod {n m : Nat} (hn : n ≤ 5) : ∃ k : Nat, graphOk n k = true ∧ grT k n = grT m n := by
  refine ⟨m % 2 ^ (pairsI n).toNat, ?_, ?_⟩
  · unfold graphOk
    refine decide_eq_true ⟨⟨by omega, by omega⟩, ?_⟩
    have := Nat.mod_lt m (Nat.two_pow_pos (pairsI n).toNat)
    exact_mod_cast this
  · unfold grT
    rw [pairsE_mod m _ n ?_ hn]
    have : n = 0 ∨ n = 1 ∨ n = 2 ∨ n = 3 ∨ n = 4 ∨ n = 5 := by omega
    rcases this with rfl | rfl | rfl | rfl | rfl | rfl <;> decide
theorem rgO_text {s : ByteArray} {n m : Nat} (h : rgO s = some (n, m)) : n ≤ 5 ∧ grT m n = s := by
  unfold rgO at h
  split at h
  · rename_i hok
    cases hg : goI (nI s) ((wdI s).drop 1) 0 with
    | none => rw [hg] at h; cases h
    | some k =>
      rw [hg, Option.bind_some] at h
      split at h
      · rename_i he
        rw [ba_eq, decide_eq_true_eq] at he
        injection h with h
        injection h with h1 h2
        subst h1; subst h2
        unfold okI at hok
        simp only [Bool.and_eq_true, decide_eq_true_eq] at hok
        exact ⟨by omega, he⟩
      · cases h
  · cases h
theorem rsO_text {s : ByteArray} {n m : Nat} (h : rsO s = some (n, m)) : graphOk n m = true ∧ grT m n = s := by
  unfold rsO at h
  split at h
  · rename_i hok
    cases hg : goS (nS s) ((splitL s 32).drop 2) 0 with
    | none => rw [hg] at h; cases h
    | some k =>
      rw [hg, Option.bind_some] at h
      split at h
      · rename_i he
        rw [ba_eq, decide_eq_true_eq] at he
        injection h with h
        injection h with h1 h2
        subst h1; subst h2
        have hpos : 0 ≤ nS s := by unfold nS; exact (l01V_in _).1
        have en : ((nS s).toNat : Int) = nS s := by omega
        rw [en]
        unfold graphT at he
        split at he
        · rename_i ho
          exact ⟨ho, he⟩
        · exfalso
          unfold okS at hok
          simp only [Bool.and_eq_true, decide_eq_true_eq] at hok
          have h2 := hok.1.1
          rw [← he] at h2
          have : (splitL noB 32).length = 1 := by decide
          omega
      · cases h
  · cases h
theorem graph_same (s : ByteArray) : rgO s = rsO s := by
  cases h1 : rgO s with
  | some p =>
    obtain ⟨n, m⟩ := p
    obtain ⟨hn, ht⟩ := rgO_text h1
    obtain ⟨k, hk, hkt⟩ := grT_mod (m := m) hn
    have := reads_graph hk
    rw [hkt, ht] at this
    rw [← h1, this.1, this.2]
  | none =>
    cases h2 : rsO s with
    | none => rfl
    | some p =>
      obtain ⟨n, m⟩ := p
      obtain ⟨ho, ht⟩ := rsO_text h2
      have := reads_graph ho
      rw [ht, h1] at this
      cases this.1
theorem law_readGraph (xs : List AV) (h : WtA [.str] xs) : T PP 11 xs .nil fun r _ => r = .bool true := by
  simp only [WtA_cons, WtA_nil] at h
  obtain ⟨x, _, rfl, hx, rfl⟩ := h
  obtain ⟨s, rfl, hs⟩ := (WtV_str x).1 hx
  refine (P_code (r := .bool true) (Quiet.q1 q_spec_ReadGraph (Quiet.q1 q_impl_ReadGraph (Quiet.q1 q_laws_eqGraph Quiet.nil))) hmix k_laws_FnExactReadGraph rfl rfl ?_).mono fun r A' h => h.1
  by_cases c : (1048576 : Int) < s.size
  · simp -dsimp -implicitDefEqProofs [c_laws_FnExactReadGraph, r_laws_FnExactReadGraph, c]
  · have hr := sp_readGr_eq s (by omega)
    have hr2 := sp_readGrS_eq s (by omega)
    rw [graph_same s] at hr
    cases ho : rsO s with
    | none =>
      rw [ho] at hr hr2
      simp -dsimp -implicitDefEqProofs [c_laws_FnExactReadGraph, r_laws_FnExactReadGraph, c, hr, hr2, rgA]
    | some p =>
      obtain ⟨n, m⟩ := p
      rw [ho] at hr hr2
      simp -dsimp -implicitDefEqProofs [c_laws_FnExactReadGraph, r_laws_FnExactReadGraph, c, hr, hr2, rgA]
end Go.Proofs.YtjfoenibffdoeaaDoorAi
end

section
/- Contracts and law: FlagText. -/
namespace Go.Proofs.YtjfoenibffdoeaaDoorAi
open Go Go.RowKit
set_option linter.unusedVariables false
set_option linter.unusedSimpArgs false
set_option maxRecDepth 20000

def flagOk (k n e : Int) : Bool := graphOk n e && (decide (0 ≤ k) && decide (k ≤ 3)) && decide (k ≤ n)
noncomputable def sp_flagOk : List AV → Option (AV) := pf (ι := (Int) × (Int) × (Int)) (α := AV) (fun ⟨k, n, e⟩ => 0 ≤ e ∧ e ≤ 4294967295) (fun ⟨k, n, e⟩ => [.agg [.int .i64 k, .int .i64 n, .int .u32 e]]) (fun ⟨k, n, e⟩ => .bool (flagOk k n e))
theorem sp_flagOk_eq (k n e : Int) (h : 0 ≤ e ∧ e ≤ 4294967295) : sp_flagOk [.agg [.int .i64 k, .int .i64 n, .int .u32 e]] = some (.bool (flagOk k n e)) := by
  unfold sp_flagOk
  exact pf_eq (ι := (Int) × (Int) × (Int)) (α := AV) (k, n, e) h (by rintro ⟨k', n', e'⟩ _ e; simp_all [Int.natCast_inj])
theorem q_spec_l03Ok : QP PP 63 sp_flagOk := by
  refine QP_pf (fun i h => ?_) fun i h => ?_
  · obtain ⟨k, n, e⟩ := i; exact ⟨by first | rfl | simp, by first | rfl | simp⟩
  obtain ⟨k, n, e⟩ := i
  replace h : 0 ≤ e ∧ e ≤ 4294967295 := h
  refine P_code (Quiet.q1 q_spec_l01Ok (Quiet.q1 q_spec_l00In Quiet.nil)) hmix k_spec_l03Ok rfl ?_ ?_
  · first | rfl | simp
  show wpc 0 PP _ c_spec_l03Ok (initSt [.agg [.int .i64 k, .int .i64 n, .int .u32 e]] .nil) (endP r_spec_l03Ok (.bool (flagOk k n e)))
  have ho := sp_graphOk_eq n e h
  unfold flagOk
  cases hf : graphOk n e <;> cases h1 : decide (0 ≤ k) <;> cases h2 : decide (k ≤ 3) <;> rw [hf] at ho <;> simp -dsimp -implicitDefEqProofs [c_spec_l03Ok, r_spec_l03Ok, ho, h1, h2]
theorem q_impl_ValidFlag : QP PP 64 sp_flagOk := by
  refine QP_pf (fun i h => ?_) fun i h => ?_
  · obtain ⟨k, n, e⟩ := i; exact ⟨by first | rfl | simp, by first | rfl | simp⟩
  obtain ⟨k, n, e⟩ := i
  replace h : 0 ≤ e ∧ e ≤ 4294967295 := h
  refine P_code (Quiet.q1 q_impl_ValidGraph (Quiet.q1 q_impl_in Quiet.nil)) hmix k_impl_ValidFlag rfl ?_ ?_
  · first | rfl | simp
  show wpc 0 PP _ c_impl_ValidFlag (initSt [.agg [.int .i64 k, .int .i64 n, .int .u32 e]] .nil) (endP r_impl_ValidFlag (.bool (flagOk k n e)))
  have ho := sp_graphOk_eq n e h
  unfold flagOk
  cases hf : graphOk n e <;> cases h1 : decide (0 ≤ k) <;> cases h2 : decide (k ≤ 3) <;> rw [hf] at ho <;> simp -dsimp -implicitDefEqProofs [c_impl_ValidFlag, r_impl_ValidFlag, ho, h1, h2]
def flagB : ByteArray := ⟨#[102, 108, 97, 103, 32]⟩
def flagX (k n e : Int) : ByteArray := flagB ++ decB k ++ sepB ++ grT e n.toNat
theorem grT_size {e : Int} {n : Nat} (h : n ≤ 5) : (grT e n).size ≤ 1200 := by
  have := edT_take (e := e) h (pairsE e n).length
  rw [List.take_length] at this
  exact this
noncomputable def sp_flagX : List AV → Option (AV) := pf (ι := (Int) × (Int) × (Int)) (α := AV) (fun ⟨k, n, e⟩ => (0 ≤ k ∧ k ≤ 3) ∧ (0 ≤ n ∧ n ≤ 5) ∧ (0 ≤ e ∧ e ≤ 4294967295)) (fun ⟨k, n, e⟩ => [.agg [.int .i64 k, .int .i64 n, .int .u32 e]]) (fun ⟨k, n, e⟩ => .str (flagX k n e))
theorem sp_flagX_eq (k n e : Int) (h : (0 ≤ k ∧ k ≤ 3) ∧ (0 ≤ n ∧ n ≤ 5) ∧ (0 ≤ e ∧ e ≤ 4294967295)) : sp_flagX [.agg [.int .i64 k, .int .i64 n, .int .u32 e]] = some (.str (flagX k n e)) := by
  unfold sp_flagX
  exact pf_eq (ι := (Int) × (Int) × (Int)) (α := AV) (k, n, e) h (by rintro ⟨k', n', e'⟩ _ e; simp_all [Int.natCast_inj])
theorem q_impl_Flag_text : QP PP 65 sp_flagX := by
  refine QP_pf (fun i h => ?_) fun i h => ?_
  · obtain ⟨k, n, e⟩ := i; exact ⟨by first | rfl | simp, by first | rfl | simp⟩
  obtain ⟨k, n, e⟩ := i
  replace h : (0 ≤ k ∧ k ≤ 3) ∧ (0 ≤ n ∧ n ≤ 5) ∧ (0 ≤ e ∧ e ≤ 4294967295) := h
  refine P_code (Quiet.q1 q_impl_decimal (Quiet.q1 q_impl_Graph_text Quiet.nil)) hmix k_impl_Flag_text rfl ?_ ?_
  · first | rfl | simp
  show wpc 0 PP _ c_impl_Flag_text (initSt [.agg [.int .i64 k, .int .i64 n, .int .u32 e]] .nil) (endP r_impl_Flag_text (.str (flagX k n e)))
  obtain ⟨hk, hn, he⟩ := h
  obtain ⟨m, rfl⟩ := Int.eq_ofNat_of_zero_le hn.1
  have hd := sp_decimal_eq k (by omega)
  have ht := sp_graphTx_eq m e ⟨by omega, he⟩
  have s1 := decB_size k (by omega) (by omega)
  have s2 := grT_size (e := e) (n := m) (by omega)
  have z1 : 5 + (decB k).size ≤ 9223372036854775807 := by omega
  have z2 : 5 + (decB k).size + 1 ≤ 9223372036854775807 := by omega
  have z3 : 5 + (decB k).size + 1 + (grT e m).size ≤ 9223372036854775807 := by omega
  unfold flagX
  simp -dsimp -implicitDefEqProofs [c_impl_Flag_text, r_impl_Flag_text, hd, ht, z1, z2, z3, flagB, sepB]
def flagT (k n e : Int) : ByteArray := if flagOk k n e = true then flagX k n e else noB
theorem flagOk_in {k n e : Int} (h : flagOk k n e = true) : graphOk n e = true ∧ (0 ≤ k ∧ k ≤ 3) ∧ (0 ≤ n ∧ n ≤ 5) := by
  unfold flagOk at h
  simp only [Bool.and_eq_true, decide_eq_true_eq] at h
  exact ⟨h.1.1, h.1.2, graphOk_in h.1.1⟩
noncomputable def sp_flagText : List AV → Option (AV) := pf (ι := (Int) × (Int) × (Int)) (α := AV) (fun ⟨k, n, e⟩ => 0 ≤ e ∧ e ≤ 4294967295) (fun ⟨k, n, e⟩ => [.agg [.int .i64 k, .int .i64 n, .int .u32 e]]) (fun ⟨k, n, e⟩ => .str (flagT k n e))
theorem sp_flagText_eq (k n e : Int) (h : 0 ≤ e ∧ e ≤ 4294967295) : sp_flagText [.agg [.int .i64 k, .int .i64 n, .int .u32 e]] = some (.str (flagT k n e)) := by
  unfold sp_flagText
  exact pf_eq (ι := (Int) × (Int) × (Int)) (α := AV) (k, n, e) h (by rintro ⟨k', n', e'⟩ _ e; simp_all [Int.natCast_inj])
theorem q_impl_FlagText : QP PP 24 sp_flagText := by
  refine QP_pf (fun i h => ?_) fun i h => ?_
  · obtain ⟨k, n, e⟩ := i; exact ⟨by first | rfl | simp, by first | rfl | simp⟩
  obtain ⟨k, n, e⟩ := i
  replace h : 0 ≤ e ∧ e ≤ 4294967295 := h
  refine P_code (Quiet.q1 q_impl_ValidFlag (Quiet.q1 q_impl_Flag_text Quiet.nil)) hmix k_impl_FlagText rfl ?_ ?_
  · first | rfl | simp
  show wpc 0 PP _ c_impl_FlagText (initSt [.agg [.int .i64 k, .int .i64 n, .int .u32 e]] .nil) (endP r_impl_FlagText (.str (flagT k n e)))
  have ho := sp_flagOk_eq k n e h
  cases hf : flagOk k n e with
  | false =>
    rw [hf] at ho
    simp -dsimp -implicitDefEqProofs [c_impl_FlagText, r_impl_FlagText, ho, hf, flagT, noB]
  | true =>
    rw [hf] at ho
    have hn := flagOk_in hf
    have ht := sp_flagX_eq k n e ⟨hn.2.1, hn.2.2, h⟩
    simp -dsimp -implicitDefEqProofs [c_impl_FlagText, r_impl_FlagText, ho, hf, flagT, ht]
theorem q_spec_FlagText : QP PP 22 sp_flagText := by
  refine QP_pf (fun i h => ?_) fun i h => ?_
  · obtain ⟨k, n, e⟩ := i; exact ⟨by first | rfl | simp, by first | rfl | simp⟩
  obtain ⟨k, n, e⟩ := i
  replace h : 0 ≤ e ∧ e ≤ 4294967295 := h
  refine P_code (Quiet.q1 q_spec_l03Ok (Quiet.q1 q_spec_Decimal (Quiet.q1 q_spec_GraphText Quiet.nil))) hmix k_spec_FlagText rfl ?_ ?_
  · first | rfl | simp
  show wpc 0 PP _ c_spec_FlagText (initSt [.agg [.int .i64 k, .int .i64 n, .int .u32 e]] .nil) (endP r_spec_FlagText (.str (flagT k n e)))
  have ho := sp_flagOk_eq k n e h
  cases hf : flagOk k n e with
  | false =>
    rw [hf] at ho
    simp -dsimp -implicitDefEqProofs [c_spec_FlagText, r_spec_FlagText, ho, hf, flagT, noB]
  | true =>
    rw [hf] at ho
    obtain ⟨hg, hk, hn⟩ := flagOk_in hf
    obtain ⟨m, rfl⟩ := Int.eq_ofNat_of_zero_le hn.1
    have hd := sp_decS_eq k (by omega)
    have ht := sp_graphText_eq m e h
    have hgt : graphT m e = grT e m := by unfold graphT; rw [if_pos hg, Int.toNat_natCast]
    rw [hgt] at ht
    have s1 := decB_size k (by omega) (by omega)
    have s2 := grT_size (e := e) (n := m) (by omega)
    have z1 : 5 + (decB k).size ≤ 9223372036854775807 := by omega
    have z2 : 5 + (decB k).size + 1 ≤ 9223372036854775807 := by omega
    have z3 : 5 + (decB k).size + 1 + (grT e m).size ≤ 9223372036854775807 := by omega
    unfold flagT
    rw [if_pos hf]
    unfold flagX
    rw [Int.toNat_natCast]
    simp -dsimp -implicitDefEqProofs [c_spec_FlagText, r_spec_FlagText, ho, hd, ht, z1, z2, z3, flagB, sepB]
noncomputable def sp_toFlag : List AV → Option (AV) := pf (ι := (Int) × (Int) × (Int)) (α := AV) (fun ⟨k, n, e⟩ => True) (fun ⟨k, n, e⟩ => [.agg [.int .i64 k, .int .i64 n, .int .u32 e]]) (fun ⟨k, n, e⟩ => .agg [.int .i64 k, .int .i64 n, .int .u32 e])
theorem sp_toFlag_eq (k n e : Int) : sp_toFlag [.agg [.int .i64 k, .int .i64 n, .int .u32 e]] = some (.agg [.int .i64 k, .int .i64 n, .int .u32 e]) := by
  unfold sp_toFlag
  exact pf_eq (ι := (Int) × (Int) × (Int)) (α := AV) (k, n, e) trivial (by rintro ⟨k', n', e'⟩ _ e; simp_all [Int.natCast_inj])
attribute [simp] sp_toFlag_eq
theorem q_laws_toFlag : QP PP 23 sp_toFlag := by
  refine QP_pf (fun i h => ?_) fun i h => ?_
  · obtain ⟨k, n, e⟩ := i; exact ⟨by first | rfl | simp, by first | rfl | simp⟩
  obtain ⟨k, n, e⟩ := i
  replace h : True := h
  refine P_code (Quiet.q1 q_laws_toGraph Quiet.nil) hmix k_laws_toFlag rfl ?_ ?_
  · first | rfl | simp
  show wpc 0 PP _ c_laws_toFlag (initSt [.agg [.int .i64 k, .int .i64 n, .int .u32 e]] .nil) (endP r_laws_toFlag (.agg [.int .i64 k, .int .i64 n, .int .u32 e]))
  simp -dsimp -implicitDefEqProofs [c_laws_toFlag, r_laws_toFlag]
abbrev tyFlagT : Ty := .st [.int .i64, .st [.int .i64, .int .u32]]
theorem law_flagText (xs : List AV) (h : WtA [tyFlagT] xs) : T PP 6 xs .nil fun r _ => r = .bool true := by
  simp only [WtA_cons, WtA_nil] at h
  obtain ⟨x, _, rfl, hx, rfl⟩ := h
  obtain ⟨k, n, e, rfl, he⟩ : ∃ k n e : Int, x = .agg [.int .i64 k, .int .i64 n, .int .u32 e] ∧ 0 ≤ e ∧ e ≤ 4294967295 := by
    simp only [tyFlagT, WtV_st, WtL_st, WtL_int, WtL_nil] at hx
    obtain ⟨_, rfl, k, _, rfl, hk, a, b, rfl, ⟨n, _, rfl, hn, e, _, rfl, he, rfl⟩, rfl⟩ := hx
    exact ⟨k, n, e, rfl, by simpa [IntKind.min, IntKind.signed] using he.1, by simpa [IntKind.max, IntKind.signed, IntKind.bits] using he.2⟩
  have ht := sp_flagText_eq k n e he
  refine (P_code (r := .bool true) (Quiet.q1 q_laws_toFlag (Quiet.q1 q_spec_FlagText (Quiet.q1 q_impl_FlagText Quiet.nil))) hmix k_laws_FnExactFlagText rfl rfl ?_).mono fun r A' h => h.1
  simp -dsimp -implicitDefEqProofs [c_laws_FnExactFlagText, r_laws_FnExactFlagText, bne_ba, ht]
end Go.Proofs.YtjfoenibffdoeaaDoorAi
end

section
/- MADE BY PROGRAM (wip/tools/gen.py): the abstract code of functions. -/
namespace Go.Proofs.YtjfoenibffdoeaaDoorAi
open Go AC AOp Opd
set_option linter.unusedVariables false
set_option maxRecDepth 100000
def c_laws_eqFlag : AC := seq (reg [⟨(some 2), box 3 (t 0), none⟩, ⟨(some 3), box 3 (t 1), none⟩, ⟨(some 4), mv (c (.bool false)), none⟩]) (seq (seq (reg [⟨(some 5), fad (t 2) 0, none⟩, ⟨(some 6), ld (t 5) 1 false, none⟩, ⟨(some 7), fad (t 3) 0, none⟩, ⟨(some 8), ld (t 7) 1 false, none⟩, ⟨(some 9), bin .neq (t 6) (t 8), none⟩]) (cond (t 9) (seq (reg [⟨(some 4), mv (c (.bool false)), none⟩]) (ret)) (skip))) (seq (seq (reg [⟨(some 10), fad (t 2) 1, none⟩, ⟨(some 11), ld (t 10) 2 true, none⟩, ⟨(some 12), fad (t 3) 1, none⟩, ⟨(some 13), ld (t 12) 2 true, none⟩, ⟨(some 14), callq (c (.fn 45 [])) [t 11, t 13], none⟩, ⟨(some 15), un .not (t 14), none⟩]) (cond (t 15) (seq (reg [⟨(some 4), mv (c (.bool false)), none⟩]) (ret)) (skip))) (seq (reg [⟨(some 4), mv (c (.bool true)), none⟩]) (ret))))
def r_laws_eqFlag : List ARes := [.tmp 4]
theorem k_laws_eqFlag : acLin Go.Proofs.Tryd.prog 48 2 (inQ [45] []) [] = some (c_laws_eqFlag, r_laws_eqFlag) := by kernel_rfl
def c_impl_ReadFlag : AC := seq (reg [⟨(some 2), alloc [.int .i64 0, .int .i64 0, .int .u32 0], none⟩, ⟨(some 3), mv (c (.int .i64 0)), none⟩]) (seq (reg [⟨(some 15), mv (t 0), none⟩, ⟨(some 16), callq (c (.fn 90 [])) [t 15, c (.str ⟨#[102, 108, 97, 103, 32]⟩)], none⟩, ⟨(some 14), mv (t 16), none⟩, ⟨(some 17), ext (t 14) 0, none⟩, ⟨(some 18), ext (t 14) 1, none⟩, ⟨(some 4), mv (t 17), none⟩, ⟨(some 5), mv (t 18), none⟩]) (seq (reg [⟨(some 20), mv (t 4), none⟩, ⟨(some 21), callq (c (.fn 84 [])) [t 20, c (.str ⟨#[32]⟩)], none⟩, ⟨(some 19), mv (t 21), none⟩, ⟨(some 22), ext (t 19) 0, none⟩, ⟨(some 23), ext (t 19) 1, none⟩, ⟨(some 24), ext (t 19) 2, none⟩, ⟨(some 6), mv (t 22), none⟩, ⟨(some 7), mv (t 23), none⟩, ⟨(some 8), mv (t 24), none⟩]) (seq (reg [⟨(some 26), mv (t 6), none⟩, ⟨(some 27), callq (c (.fn 85 [])) [t 26], none⟩, ⟨(some 25), mv (t 27), none⟩, ⟨(some 28), ext (t 25) 0, none⟩, ⟨(some 29), ext (t 25) 1, none⟩, ⟨(some 9), mv (t 28), none⟩, ⟨(some 10), mv (t 29), none⟩]) (seq (reg [⟨(some 31), mv (t 7), none⟩, ⟨(some 32), callq (c (.fn 44 [])) [t 31], none⟩, ⟨(some 30), mv (t 32), none⟩, ⟨(some 33), ext (t 30) 0, none⟩, ⟨(some 34), ext (t 30) 1, none⟩, ⟨(some 11), alloc [.int .i64 0, .int .u32 0], none⟩, ⟨none, st (t 11) 2 (t 33), none⟩, ⟨(some 12), mv (t 34), none⟩]) (seq (reg [⟨(some 35), mv (t 9), none⟩, ⟨(some 36), ld (t 11) 2 true, none⟩, ⟨(some 37), bld [.int .i64 0, .int .i64 0, .int .u32 0] [(0, 1, t 35), (1, 2, t 36)], none⟩, ⟨(some 13), alloc [.int .i64 0, .int .i64 0, .int .u32 0], none⟩, ⟨none, st (t 13) 3 (t 37), none⟩]) (seq (seq (reg [⟨(some 38), mv (t 5), none⟩, ⟨(some 39), un .not (t 38), none⟩, ⟨(some 40), mv (t 39), none⟩, ⟨(some 41), mv (t 8), some (40, false)⟩, ⟨(some 42), un .not (t 41), some (40, false)⟩, ⟨(some 43), pick (t 40) (c (.bool true)) (t 42), none⟩, ⟨(some 44), mv (t 43), none⟩, ⟨(some 45), mv (t 10), some (44, false)⟩, ⟨(some 46), un .not (t 45), some (44, false)⟩, ⟨(some 47), pick (t 44) (c (.bool true)) (t 46), none⟩, ⟨(some 48), mv (t 47), none⟩, ⟨(some 49), mv (t 12), some (48, false)⟩, ⟨(some 50), bin .neq (t 49) (c (.int .i64 0)), some (48, false)⟩, ⟨(some 51), pick (t 48) (c (.bool true)) (t 50), none⟩, ⟨(some 52), mv (t 51), none⟩, ⟨(some 53), ld (t 13) 3 true, some (52, false)⟩, ⟨(some 54), callq (c (.fn 64 [])) [t 53], some (52, false)⟩, ⟨(some 55), un .not (t 54), some (52, false)⟩, ⟨(some 56), pick (t 52) (c (.bool true)) (t 55), none⟩]) (cond (t 56) (seq (reg [⟨(some 57), bld [.int .i64 0, .int .i64 0, .int .u32 0] [], none⟩, ⟨none, st (t 2) 3 (t 57), none⟩, ⟨(some 3), mv (c (.int .i64 5)), none⟩]) (ret)) (skip))) (seq (reg [⟨(some 58), ld (t 13) 3 true, none⟩, ⟨none, st (t 2) 3 (t 58), none⟩, ⟨(some 3), mv (c (.int .i64 0)), none⟩]) (ret))))))))
def r_impl_ReadFlag : List ARes := [.cell 2 3 true, .tmp 3]
theorem k_impl_ReadFlag : acLin Go.Proofs.Tryd.prog 47 1 (inQ [44, 64, 84, 85, 90] []) [] = some (c_impl_ReadFlag, r_impl_ReadFlag) := by kernel_rfl
def c_spec_ReadFlag : AC := seq (reg [⟨(some 2), alloc [.int .i64 0, .int .i64 0, .int .u32 0], none⟩, ⟨(some 3), mv (c (.int .i64 0)), none⟩]) (seq (seq (reg [⟨(some 7), mv (t 0), none⟩, ⟨(some 8), lens (t 7), none⟩, ⟨(some 9), bin .lss (t 8) (c (.int .i64 8)), none⟩, ⟨(some 10), mv (t 9), none⟩, ⟨(some 11), mv (t 0), some (10, false)⟩, ⟨(some 12), sls (t 11) none (some (c (.int .i64 5))), some (10, false)⟩, ⟨(some 13), bin .neq (t 12) (c (.str ⟨#[102, 108, 97, 103, 32]⟩)), some (10, false)⟩, ⟨(some 14), pick (t 10) (c (.bool true)) (t 13), none⟩, ⟨(some 15), mv (t 14), none⟩, ⟨(some 16), mv (t 0), some (15, false)⟩, ⟨(some 17), idx (t 16) (c (.int .i64 6)), some (15, false)⟩, ⟨(some 18), bin .neq (t 17) (c (.int .u8 32)), some (15, false)⟩, ⟨(some 19), pick (t 15) (c (.bool true)) (t 18), none⟩, ⟨(some 20), mv (t 19), none⟩, ⟨(some 21), mv (t 0), some (20, false)⟩, ⟨(some 22), idx (t 21) (c (.int .i64 5)), some (20, false)⟩, ⟨(some 23), bin .lss (t 22) (c (.int .u8 48)), some (20, false)⟩, ⟨(some 24), pick (t 20) (c (.bool true)) (t 23), none⟩, ⟨(some 25), mv (t 24), none⟩, ⟨(some 26), mv (t 0), some (25, false)⟩, ⟨(some 27), idx (t 26) (c (.int .i64 5)), some (25, false)⟩, ⟨(some 28), bin .gtr (t 27) (c (.int .u8 51)), some (25, false)⟩, ⟨(some 29), pick (t 25) (c (.bool true)) (t 28), none⟩]) (cond (t 29) (seq (reg [⟨(some 30), bld [.int .i64 0, .int .i64 0, .int .u32 0] [], none⟩, ⟨none, st (t 2) 3 (t 30), none⟩, ⟨(some 3), mv (c (.int .i64 5)), none⟩]) (ret)) (skip))) (seq (reg [⟨(some 32), mv (t 0), none⟩, ⟨(some 33), sls (t 32) (some (c (.int .i64 7))) none, none⟩, ⟨(some 34), callq (c (.fn 43 [])) [t 33], none⟩, ⟨(some 31), mv (t 34), none⟩, ⟨(some 35), ext (t 31) 0, none⟩, ⟨(some 36), ext (t 31) 1, none⟩, ⟨(some 4), alloc [.int .i64 0, .int .u32 0], none⟩, ⟨none, st (t 4) 2 (t 35), none⟩, ⟨(some 5), mv (t 36), none⟩]) (seq (reg [⟨(some 37), mv (t 0), none⟩, ⟨(some 38), idx (t 37) (c (.int .i64 5)), none⟩, ⟨(some 39), bin .sub (t 38) (c (.int .u8 48)), none⟩, ⟨(some 40), conv .i64 (t 39), none⟩, ⟨(some 41), ld (t 4) 2 true, none⟩, ⟨(some 42), bld [.int .i64 0, .int .i64 0, .int .u32 0] [(0, 1, t 40), (1, 2, t 41)], none⟩, ⟨(some 6), alloc [.int .i64 0, .int .i64 0, .int .u32 0], none⟩, ⟨none, st (t 6) 3 (t 42), none⟩]) (seq (seq (reg [⟨(some 43), mv (t 5), none⟩, ⟨(some 44), bin .neq (t 43) (c (.int .i64 0)), none⟩, ⟨(some 45), mv (t 44), none⟩, ⟨(some 46), ld (t 6) 3 true, some (45, false)⟩, ⟨(some 47), callq (c (.fn 63 [])) [t 46], some (45, false)⟩, ⟨(some 48), un .not (t 47), some (45, false)⟩, ⟨(some 49), pick (t 45) (c (.bool true)) (t 48), none⟩]) (cond (t 49) (seq (reg [⟨(some 50), bld [.int .i64 0, .int .i64 0, .int .u32 0] [], none⟩, ⟨none, st (t 2) 3 (t 50), none⟩, ⟨(some 3), mv (c (.int .i64 5)), none⟩]) (ret)) (skip))) (seq (reg [⟨(some 51), ld (t 6) 3 true, none⟩, ⟨none, st (t 2) 3 (t 51), none⟩, ⟨(some 3), mv (c (.int .i64 0)), none⟩]) (ret))))))
def r_spec_ReadFlag : List ARes := [.cell 2 3 true, .tmp 3]
theorem k_spec_ReadFlag : acLin Go.Proofs.Tryd.prog 46 1 (inQ [43, 63] []) [⟨false, none, [], [], none⟩, ⟨false, none, [], [], none⟩, ⟨false, none, [], [], none⟩, ⟨false, none, [], [], none⟩, ⟨false, none, [], [], none⟩, ⟨false, some [0, 1, 2, 3, 4, 5, 6, 7], [], [], none⟩] = some (c_spec_ReadFlag, r_spec_ReadFlag) := by kernel_rfl
def c_laws_FnExactReadFlag : AC := seq (reg [⟨(some 2), mv (c (.bool false)), none⟩]) (seq (seq (reg [⟨(some 7), mv (t 0), none⟩, ⟨(some 8), lens (t 7), none⟩, ⟨(some 9), bin .gtr (t 8) (c (.int .i64 1048576)), none⟩]) (cond (t 9) (seq (reg [⟨(some 2), mv (c (.bool true)), none⟩]) (ret)) (skip))) (seq (reg [⟨(some 11), mv (t 0), none⟩, ⟨(some 12), callq (c (.fn 46 [])) [t 11], none⟩, ⟨(some 10), mv (t 12), none⟩, ⟨(some 13), ext (t 10) 0, none⟩, ⟨(some 14), ext (t 10) 1, none⟩, ⟨(some 3), alloc [.int .i64 0, .int .i64 0, .int .u32 0], none⟩, ⟨none, st (t 3) 3 (t 13), none⟩, ⟨(some 4), mv (t 14), none⟩]) (seq (reg [⟨(some 16), mv (t 0), none⟩, ⟨(some 17), callq (c (.fn 47 [])) [t 16], none⟩, ⟨(some 15), mv (t 17), none⟩, ⟨(some 18), ext (t 15) 0, none⟩, ⟨(some 19), ext (t 15) 1, none⟩, ⟨(some 5), alloc [.int .i64 0, .int .i64 0, .int .u32 0], none⟩, ⟨none, st (t 5) 3 (t 18), none⟩, ⟨(some 6), mv (t 19), none⟩]) (seq (seq (reg [⟨(some 20), ld (t 5) 3 true, none⟩, ⟨(some 21), ld (t 3) 3 true, none⟩, ⟨(some 22), callq (c (.fn 48 [])) [t 20, t 21], none⟩, ⟨(some 23), un .not (t 22), none⟩, ⟨(some 24), mv (t 23), none⟩, ⟨(some 25), mv (t 6), some (24, false)⟩, ⟨(some 26), mv (t 4), some (24, false)⟩, ⟨(some 27), bin .neq (t 25) (t 26), some (24, false)⟩, ⟨(some 28), pick (t 24) (c (.bool true)) (t 27), none⟩]) (cond (t 28) (seq (reg [⟨(some 2), mv (c (.bool false)), none⟩]) (ret)) (skip))) (seq (reg [⟨(some 2), mv (c (.bool true)), none⟩]) (ret))))))
def r_laws_FnExactReadFlag : List ARes := [.tmp 2]
theorem k_laws_FnExactReadFlag : acLin Go.Proofs.Tryd.prog 12 1 (inQ [46, 47, 48] []) [] = some (c_laws_FnExactReadFlag, r_laws_FnExactReadFlag) := by kernel_rfl
end Go.Proofs.YtjfoenibffdoeaaDoorAi
end

section
/- Contracts: ReadFlag. -/
namespace Go.Proofs.YtjfoenibffdoeaaDoorAi
open Go Go.RowKit
set_option linter.unusedVariables false
set_option linter.unusedSimpArgs false
set_option maxRecDepth 20000

noncomputable def sp_eqFlag : List AV → Option (AV) := pf (ι := (Int) × (Int) × (Int) × (Int) × (Int) × (Int)) (α := AV) (fun ⟨k, n, e, k', n', e'⟩ => True) (fun ⟨k, n, e, k', n', e'⟩ => [.agg [.int .i64 k, .int .i64 n, .int .u32 e], .agg [.int .i64 k', .int .i64 n', .int .u32 e']]) (fun ⟨k, n, e, k', n', e'⟩ => .bool (k == k' && (n == n' && e == e')))
theorem sp_eqFlag_eq (k n e k' n' e' : Int) : sp_eqFlag [.agg [.int .i64 k, .int .i64 n, .int .u32 e], .agg [.int .i64 k', .int .i64 n', .int .u32 e']] = some (.bool (k == k' && (n == n' && e == e'))) := by
  unfold sp_eqFlag
  exact pf_eq (ι := (Int) × (Int) × (Int) × (Int) × (Int) × (Int)) (α := AV) (k, n, e, k', n', e') trivial (by rintro ⟨k', n', e', k'', n'', e''⟩ _ e; simp_all [Int.natCast_inj])
attribute [simp] sp_eqFlag_eq
theorem q_laws_eqFlag : QP PP 48 sp_eqFlag := by
  refine QP_pf (fun i h => ?_) fun i h => ?_
  · obtain ⟨k, n, e, k', n', e'⟩ := i; exact ⟨by first | rfl | simp, by first | rfl | simp⟩
  obtain ⟨k, n, e, k', n', e'⟩ := i
  replace h : True := h
  refine P_code (Quiet.q1 q_laws_eqGraph Quiet.nil) hmix k_laws_eqFlag rfl ?_ ?_
  · first | rfl | simp
  show wpc 0 PP _ c_laws_eqFlag (initSt [.agg [.int .i64 k, .int .i64 n, .int .u32 e], .agg [.int .i64 k', .int .i64 n', .int .u32 e']] .nil) (endP r_laws_eqFlag (.bool (k == k' && (n == n' && e == e'))))
  cases h1 : (k == k') <;> cases h2 : (n == n') <;> cases h3 : (e == e')
  all_goals
    have h1' : (k != k') = !(k == k') := rfl
    rw [h1] at h1'
    simp -dsimp -implicitDefEqProofs [c_laws_eqFlag, r_laws_eqFlag, h1, h1', h2, h3]
theorem rgO_ok {s : ByteArray} {n m : Nat} (h : rgO s = some (n, m)) : graphOk n m = true ∧ m ≤ 1023 := by
  have h' := h
  rw [graph_same] at h'
  have ho := (rsO_text h').1
  refine ⟨ho, ?_⟩
  have hor := orF_pairs ho
  have hn := graphOk_in ho
  unfold graphOk at ho
  have h2 := (of_decide_eq_true ho).2
  have : (n : Nat) = 0 ∨ n = 1 ∨ n = 2 ∨ n = 3 ∨ n = 4 ∨ n = 5 := by omega
  rcases this with rfl | rfl | rfl | rfl | rfl | rfl
  · have := h2; simp [pairsI] at this; omega
  · have := h2; simp [pairsI] at this; omega
  · have := h2; rw [show pairsI ((2 : Nat) : Int) = 1 from pI2] at this; simp at this; omega
  · have := h2; rw [show pairsI ((3 : Nat) : Int) = 3 from pI3] at this; simp at this; omega
  · have := h2; rw [show pairsI ((4 : Nat) : Int) = 6 from pI4] at this; simp at this; omega
  · have := h2; rw [show pairsI ((5 : Nat) : Int) = 10 from pI5] at this; simp at this; omega
def rfA : Option (Int × Nat × Nat) → AV
  | some (k, n, m) => .tup [.agg [.int .i64 k, .int .i64 n, .int .u32 m], .int .i64 0]
  | none => .tup [.agg [.int .i64 0, .int .i64 0, .int .u32 0], .int .i64 5]
@[simp] theorem rfA_lt (o : Option (Int × Nat × Nat)) (n : Nat) : (rfA o).lt n = true := by
  cases o with
  | none => rfl
  | some p => rfl
def restF (s : ByteArray) : ByteArray := cpA s flagB
def firF (s : ByteArray) : ByteArray := cutA (restF s) sepB
def secF (s : ByteArray) : ByteArray := cutB (restF s) sepB
def endF (k : Int) (q : Option (Nat × Nat)) : Option (Int × Nat × Nat) := q.bind fun q => if flagOk k q.1 q.2 = true then some (k, q.1, q.2) else none
def rfO (s : ByteArray) : Option (Int × Nat × Nat) := if ((cpI s flagB && cutI (restF s) sepB) && numB (firF s)) = true then endF (numV (firF s)) (rgO (secF s)) else none
noncomputable def sp_readFl : List AV → Option (AV) := pf (ι := (ByteArray)) (α := AV) (fun s => s.size ≤ 1048576) (fun s => [.str s]) (fun s => rfA (rfO s))
theorem sp_readFl_eq (s : ByteArray) (h : s.size ≤ 1048576) : sp_readFl [.str s] = some (rfA (rfO s)) := by
  unfold sp_readFl
  exact pf_eq (ι := (ByteArray)) (α := AV) s h (by rintro s' _ e; simp_all [Int.natCast_inj])
set_option maxHeartbeats 4000000 in
theorem q_impl_ReadFlag : QP PP 47 sp_readFl := by
  refine QP_pf (fun s h => ?_) fun s h => ?_
  · exact ⟨by first | rfl | simp, by first | rfl | simp⟩
  replace h : s.size ≤ 1048576 := h
  refine P_code (Quiet.q1 q_strings_CutPrefix (Quiet.q1 q_strings_Cut (Quiet.q1 q_impl_number (Quiet.q1 q_impl_ReadGraph (Quiet.q1 q_impl_ValidFlag Quiet.nil))))) hmix k_impl_ReadFlag rfl ?_ ?_
  · first | rfl | simp
  show wpc 0 PP _ c_impl_ReadFlag (initSt [.str s] .nil) (endP r_impl_ReadFlag (rfA (rfO s)))
  have hcp : sp_cutP [.str s, .str ⟨#[102, 108, 97, 103, 32]⟩] = some (.tup [.str (restF s), .bool (cpI s flagB)]) := sp_cutP_eq s flagB h
  have hcs : (restF s).size ≤ s.size := cpA_size s flagB
  have hct : sp_cutS [.str (restF s), .str ⟨#[32]⟩] = some (.tup [.str (firF s), .str (secF s), .bool (cutI (restF s) sepB)]) := sp_cutS_eq (restF s) sepB (by omega)
  have hz := cut_sizes (restF s) sepB
  have hz1 : (firF s).size ≤ (restF s).size := hz.1
  have hz2 : (secF s).size ≤ (restF s).size := hz.2
  have hnum := sp_numI_eq (firF s) (by omega)
  have hrg := sp_readGr_eq (secF s) (by omega)
  unfold rfO
  cases h3 : rgO (secF s) with
  | none =>
    rw [h3] at hrg
    have hrg : sp_readGr [.str (secF s)] = some (.tup [.agg [.int .i64 0, .int .u32 0], .int .i64 5]) := hrg
    cases h1 : cpI s flagB <;> cases h2 : cutI (restF s) sepB <;> cases h4 : numB (firF s) <;> rw [h1] at hcp <;> rw [h2] at hct <;> rw [h4] at hnum <;> simp -dsimp -implicitDefEqProofs [c_impl_ReadFlag, r_impl_ReadFlag, hcp, hct, hnum, hrg, rfA, endF]
  | some p =>
    obtain ⟨n, m⟩ := p
    obtain ⟨ho, hm⟩ := rgO_ok h3
    rw [h3] at hrg
    have hrg : sp_readGr [.str (secF s)] = some (.tup [.agg [.int .i64 n, .int .u32 m], .int .i64 0]) := hrg
    have hfo := sp_flagOk_eq (numV (firF s)) n m ⟨by omega, by omega⟩
    cases h1 : cpI s flagB <;> cases h2 : cutI (restF s) sepB <;> cases h4 : numB (firF s) <;> rw [h1] at hcp <;> rw [h2] at hct <;> rw [h4] at hnum <;> cases h5 : flagOk (numV (firF s)) n m <;> rw [h5] at hfo <;> simp -dsimp -implicitDefEqProofs [c_impl_ReadFlag, r_impl_ReadFlag, hcp, hct, hnum, hrg, hfo, h5, rfA, endF]
def okF (s : ByteArray) : Bool := ((decide (8 ≤ s.size) && (s.extract 0 5 == flagB)) && (bAt s 6 == 32)) && (decide (48 ≤ bAt s 5) && decide (bAt s 5 ≤ 51))
def rsF (s : ByteArray) : Option (Int × Nat × Nat) := if okF s = true then endF (bAt s 5 - 48) (rgO (s.extract 7 s.size)) else none
noncomputable def sp_readFlS : List AV → Option (AV) := pf (ι := (ByteArray)) (α := AV) (fun s => s.size ≤ 1048576) (fun s => [.str s]) (fun s => rfA (rsF s))
theorem sp_readFlS_eq (s : ByteArray) (h : s.size ≤ 1048576) : sp_readFlS [.str s] = some (rfA (rsF s)) := by
  unfold sp_readFlS
  exact pf_eq (ι := (ByteArray)) (α := AV) s h (by rintro s' _ e; simp_all [Int.natCast_inj])
set_option maxHeartbeats 4000000 in
theorem q_spec_ReadFlag : QP PP 46 sp_readFlS := by
  refine QP_pf (fun s h => ?_) fun s h => ?_
  · exact ⟨by first | rfl | simp, by first | rfl | simp⟩
  replace h : s.size ≤ 1048576 := h
  refine P_code (Quiet.q1 q_spec_ReadGraph (Quiet.q1 q_spec_l03Ok Quiet.nil)) hmix k_spec_ReadFlag rfl ?_ ?_
  · first | rfl | simp
  show wpc 0 PP _ c_spec_ReadFlag (initSt [.str s] .nil) (endP r_spec_ReadFlag (rfA (rsF s)))
  unfold rsF
  by_cases h8 : 8 ≤ s.size
  rotate_left
  · have hk : okF s = false := by unfold okF; rw [decide_eq_false h8]; rfl
    rw [hk]
    have h8' : (s.size : Int) < 8 := by omega
    have h8n : s.size < 8 := by omega
    simp -dsimp -implicitDefEqProofs [c_spec_ReadFlag, r_spec_ReadFlag, h8', h8n, rfA]
  have h8' : ¬ (s.size : Int) < 8 := by omega
  have h8n : ¬ s.size < 8 := by omega
  have h5 : 5 ≤ s.size := by omega
  have h7 : 7 ≤ s.size := by omega
  have i6 : bytA s 6 = some (.int .u8 (bAt s 6)) := idx_at s 6 (by omega)
  have i5 : bytA s 5 = some (.int .u8 (bAt s 5)) := idx_at s 5 (by omega)
  have e1 : (s.extract 0 5 != (⟨#[102, 108, 97, 103, 32]⟩ : ByteArray)) = !(s.extract 0 5 == flagB) := rfl
  have e2 : (bAt s 6 != 32) = !(bAt s 6 == 32) := rfl
  have hk : okF s = (((s.extract 0 5 == flagB) && (bAt s 6 == 32)) && (decide (48 ≤ bAt s 5) && decide (bAt s 5 ≤ 51))) := by unfold okF; rw [decide_eq_true h8, Bool.true_and]
  rw [hk]
  have hb := bAt_in s 5
  cases k1 : (s.extract 0 5 == flagB) <;> rw [k1] at e1
  · simp -dsimp -implicitDefEqProofs [c_spec_ReadFlag, r_spec_ReadFlag, h8', h8n, h5, e1, rfA]
  cases k2 : (bAt s 6 == 32) <;> rw [k2] at e2
  · simp -dsimp -implicitDefEqProofs [c_spec_ReadFlag, r_spec_ReadFlag, h8', h8n, h5, e1, i6, e2, rfA]
  by_cases k3 : 48 ≤ bAt s 5
  rotate_left
  · have k3' : bAt s 5 < 48 := by omega
    simp -dsimp -implicitDefEqProofs [c_spec_ReadFlag, r_spec_ReadFlag, h8', h8n, h5, e1, i6, e2, i5, k3, k3', rfA]
  have k3' : ¬ bAt s 5 < 48 := by omega
  by_cases k4 : bAt s 5 ≤ 51
  rotate_left
  · have k4' : 51 < bAt s 5 := by omega
    simp -dsimp -implicitDefEqProofs [c_spec_ReadFlag, r_spec_ReadFlag, h8', h8n, h5, e1, i6, e2, i5, k3, k3', k4, k4', rfA]
  have k4' : ¬ 51 < bAt s 5 := by omega
  have hrg := sp_readGrS_eq (s.extract 7 s.size) (by rw [ByteArray.size_extract]; omega)
  rw [← graph_same] at hrg
  have w1 : IntKind.wrap .u8 (bAt s 5 - 48) = bAt s 5 - 48 := by simp [IntKind.wrap, IntKind.signed, IntKind.bits]; omega
  have w2 : IntKind.wrap .i64 (bAt s 5 - 48) = bAt s 5 - 48 := wrapI64 (by omega) (by omega)
  cases h3 : rgO (s.extract 7 s.size) with
  | none =>
    rw [h3] at hrg
    have hrg : sp_readGrS [.str (s.extract 7 s.size)] = some (.tup [.agg [.int .i64 0, .int .u32 0], .int .i64 5]) := hrg
    simp -dsimp -implicitDefEqProofs [c_spec_ReadFlag, r_spec_ReadFlag, h8', h8n, h5, h7, e1, i6, e2, i5, k3, k3', k4, k4', hrg, w1, w2, rfA, endF]
  | some p =>
    obtain ⟨n, m⟩ := p
    obtain ⟨ho, hm⟩ := rgO_ok h3
    rw [h3] at hrg
    have hrg : sp_readGrS [.str (s.extract 7 s.size)] = some (.tup [.agg [.int .i64 n, .int .u32 m], .int .i64 0]) := hrg
    have hfo := sp_flagOk_eq (bAt s 5 - 48) n m ⟨by omega, by omega⟩
    cases h6 : flagOk (bAt s 5 - 48) n m <;> rw [h6] at hfo <;> simp -dsimp -implicitDefEqProofs [c_spec_ReadFlag, r_spec_ReadFlag, h8', h8n, h5, h7, e1, i6, e2, i5, k3, k3', k4, k4', hrg, w1, w2, hfo, h6, rfA, endF]
end Go.Proofs.YtjfoenibffdoeaaDoorAi
end

section
/- Plain law and law: ReadFlag. -/
namespace Go.Proofs.YtjfoenibffdoeaaDoorAi
open Go Go.RowKit
set_option linter.unusedVariables false
set_option linter.unusedSimpArgs false
set_option maxRecDepth 20000

/-- The text of a flag with k labels, whatever follows. -/
def canF (k : Int) (r : ByteArray) : ByteArray := flagB ++ (decB k ++ ⟨#[32]⟩ ++ r)
theorem can_impl {k : Int} (h0 : 0 ≤ k) (h3 : k ≤ 3) (r : ByteArray) : rfO (canF k r) = endF k (rgO r) := by
  have el : (canF k r).data.toList = flagB.data.toList ++ (decB k ++ ⟨#[32]⟩ ++ r).data.toList := by
    unfold canF; rw [ByteArray.data_append, Array.toList_append]
  have hI : cpI (canF k r) flagB = true := by
    unfold cpI Go.Lib.hasPrefix
    rw [el]; exact List.isPrefixOf_iff_prefix.2 (List.prefix_append _ _)
  have hA : restF (canF k r) = decB k ++ ⟨#[32]⟩ ++ r := by
    unfold restF cpA Go.Lib.trimPrefix
    have : Go.Lib.hasPrefix (canF k r).data.toList flagB.data.toList = true := hI
    rw [if_pos this, el, List.drop_left]
  have hc : Go.Lib.cut (decB k ++ ⟨#[32]⟩ ++ r).data.toList sepB.data.toList = ((decB k).data.toList, r.data.toList, true) := by
    have e2 : (decB k ++ ⟨#[32]⟩ ++ r).data.toList = (decB k).data.toList ++ 32 :: r.data.toList := by
      rw [ByteArray.data_append, ByteArray.data_append, Array.toList_append, Array.toList_append]; simp
    unfold Go.Lib.cut
    have hi : Go.Lib.index (decB k ++ ⟨#[32]⟩ ++ r).data.toList sepB.data.toList = ((decB k).data.toList).length := by
      rw [e2]; exact index_atC 32 _ _ (decB_lacks h0 (c := 32) (by decide))
    rw [hi, if_pos (by omega), e2]
    have hs : sepB.data.toList.length = 1 := rfl
    rw [hs, Int.toNat_natCast]
    generalize (decB k).data.toList = la
    generalize r.data.toList = lb
    simp
  have f1 : firF (canF k r) = decB k := by unfold firF cutA; rw [hA, hc]
  have f2 : secF (canF k r) = r := by unfold secF cutB; rw [hA, hc]
  have f3 : cutI (restF (canF k r)) sepB = true := by unfold cutI; rw [hA, hc]
  have hn := num_dec k (by omega) (by omega)
  unfold rfO
  rw [hI, f3, f1, f2, hn.1, hn.2]
  rfl
theorem can_spec {k : Int} (h0 : 0 ≤ k) (h3 : k ≤ 3) (r : ByteArray) (hr : 0 < r.size) : rsF (canF k r) = endF k (rgO r) := by
  have ed : decB k = ⟨[UInt8.ofNat (48 + k.toNat)].toArray⟩ := decB_small h0 (by omega)
  have hs1 : (decB k).size = 1 := by rw [ed]; rfl
  have hb0 : bAt (decB k) 0 = 48 + k := by rw [ed, bAt_one _ (by omega)]; omega
  have hf : flagB.size = 5 := rfl
  have hp : (⟨#[32]⟩ : ByteArray).size = 1 := rfl
  have hsz : (canF k r).size = 7 + r.size := by
    unfold canF
    rw [ByteArray.size_append, ByteArray.size_append, ByteArray.size_append, hs1, hf, hp]; omega
  have b5 : bAt (canF k r) 5 = 48 + k := by
    have h := bAt_right flagB (decB k ++ ⟨#[32]⟩ ++ r) 0
    rw [hf] at h
    unfold canF
    rw [show 5 + 0 = 5 from rfl] at h
    rw [h, ByteArray.append_assoc, bAt_left _ _ 0 (by omega), hb0]
  have b6 : bAt (canF k r) 6 = 32 := by
    have h := bAt_right flagB (decB k ++ ⟨#[32]⟩ ++ r) 1
    rw [hf] at h
    unfold canF
    rw [show 5 + 1 = 6 from rfl] at h
    have h2 := bAt_right (decB k) (⟨#[32]⟩ ++ r) 0
    rw [hs1] at h2
    rw [h, ByteArray.append_assoc, show (1 : Nat) = 1 + 0 from rfl, h2, bAt_left _ r 0 (by rw [hp]; omega)]
    rfl
  have x0 : (canF k r).extract 0 5 = flagB := by unfold canF; exact ext_left flagB _
  have x7 : (canF k r).extract 7 (canF k r).size = r := by
    have e : canF k r = (flagB ++ (decB k ++ ⟨#[32]⟩)) ++ r := by unfold canF; simp only [ByteArray.append_assoc]
    have h := ext_right (flagB ++ (decB k ++ ⟨#[32]⟩)) r
    rw [← e] at h
    rw [ByteArray.size_append, ByteArray.size_append, hs1, hf, hp] at h
    exact h
  have hk : okF (canF k r) = true := by
    unfold okF
    rw [x0, b5, b6, hsz, beq_ba]
    simp; omega
  unfold rsF
  rw [if_pos hk, b5, x7, show 48 + k - 48 = k by omega]
theorem rgO_pos {r : ByteArray} {q : Nat × Nat} (h : rgO r = some q) : 0 < r.size := by
  obtain ⟨n, m⟩ := q
  obtain ⟨hn, ht⟩ := rgO_text h
  rw [← ht]
  unfold grT
  rw [edT_tail, ByteArray.size_append, ByteArray.size_append]
  have : graphB.size = 6 := rfl
  omega
theorem cut_split : ∀ (l : List UInt8), 0 ≤ Go.Lib.index l [32] → l = l.take (Go.Lib.index l [32]).toNat ++ 32 :: l.drop ((Go.Lib.index l [32]).toNat + 1)
  | [], h => by simp [Go.Lib.index] at h
  | b :: l, h => by
    rw [Go.Lib.index] at h ⊢
    by_cases hp : List.isPrefixOf [32] (b :: l) = true
    · rw [if_pos hp]
      have : (32 : UInt8) = b := by simpa [List.isPrefixOf] using hp
      subst this
      simp
    · rw [if_neg hp] at h ⊢
      by_cases hi : (Go.Lib.index l [32] == -1) = true
      · rw [if_pos hi] at h; omega
      · rw [if_neg hi] at h ⊢
        have hge := Go.Lib.index_ge l [32]
        have hne : Go.Lib.index l [32] ≠ -1 := by simpa using hi
        have e : (Go.Lib.index l [32] + 1).toNat = (Go.Lib.index l [32]).toNat + 1 := by omega
        rw [e, List.take_succ_cons, List.drop_succ_cons, List.cons_append, ← cut_split l (by omega)]
theorem impl_can {s : ByteArray} {v : Int × Nat × Nat} (h : rfO s = some v) : ∃ k r, 0 ≤ k ∧ k ≤ 3 ∧ 0 < r.size ∧ s = canF k r := by
  unfold rfO at h
  split at h
  · rename_i hc
    simp only [Bool.and_eq_true] at hc
    obtain ⟨⟨h1, h2⟩, h3⟩ := hc
    unfold endF at h
    cases hg : rgO (secF s) with
    | none => rw [hg] at h; cases h
    | some q =>
      rw [hg, Option.bind_some] at h
      split at h
      · rename_i hf
        have hk := (flagOk_in hf).2.1
        refine ⟨numV (firF s), secF s, hk.1, hk.2, rgO_pos hg, ?_⟩
        have hd : decB (numV (firF s)) = firF s := by
          unfold numB at h3
          simp only [Bool.and_eq_true, ba_eq, decide_eq_true_eq] at h3
          exact h3.2
        unfold canF
        rw [hd]
        apply ByteArray.ext
        apply Array.ext'
        have e1 : s.data.toList = flagB.data.toList ++ (restF s).data.toList := by
          have h1' : List.isPrefixOf flagB.data.toList s.data.toList = true := h1
          unfold restF cpA Go.Lib.trimPrefix
          have h1'' : Go.Lib.hasPrefix s.data.toList flagB.data.toList = true := h1
          rw [if_pos h1'']
          obtain ⟨t, ht⟩ := List.isPrefixOf_iff_prefix.1 h1'
          rw [← ht, List.drop_left]
        have e2 : (restF s).data.toList = (firF s).data.toList ++ 32 :: (secF s).data.toList := by
          have hi : 0 ≤ Go.Lib.index (restF s).data.toList [32] := by
            unfold cutI Go.Lib.cut at h2
            split at h2
            · rename_i hi; exact hi
            · cases h2
          have hcut : Go.Lib.cut (restF s).data.toList sepB.data.toList = ((restF s).data.toList.take (Go.Lib.index (restF s).data.toList [32]).toNat, (restF s).data.toList.drop ((Go.Lib.index (restF s).data.toList [32]).toNat + 1), true) := by
            unfold Go.Lib.cut
            exact if_pos hi
          unfold firF secF cutA cutB
          rw [hcut]
          exact cut_split _ hi
        rw [e1, e2, ByteArray.data_append, ByteArray.data_append, ByteArray.data_append, Array.toList_append, Array.toList_append, Array.toList_append]
        simp
      · cases h
  · cases h
theorem list_seven (l : List UInt8) (h : 7 ≤ l.length) : l = l.take 5 ++ (l[5]?.getD 0 :: l[6]?.getD 0 :: l.drop 7) := by
  match l, h with
  | a :: b :: c :: d :: e :: f :: g :: r, _ => simp
theorem spec_can {s : ByteArray} {v : Int × Nat × Nat} (h : rsF s = some v) : ∃ k r, 0 ≤ k ∧ k ≤ 3 ∧ 0 < r.size ∧ s = canF k r := by
  unfold rsF at h
  split at h
  · rename_i hc
    unfold okF at hc
    simp only [Bool.and_eq_true, decide_eq_true_eq, beq_iff_eq] at hc
    obtain ⟨⟨⟨h8, h5⟩, h6⟩, h7, h9⟩ := hc
    rw [ba_eq, decide_eq_true_eq] at h5
    have hl : s.data.toList.length = s.size := by rw [Array.length_toList]; rfl
    refine ⟨bAt s 5 - 48, s.extract 7 s.size, by omega, by omega, by rw [ByteArray.size_extract]; omega, ?_⟩
    have e0 : s.data.toList.take 5 = flagB.data.toList := by
      rw [← h5, ByteArray.data_extract, Array.toList_extract]
      simp [List.extract]
    have e7 : (s.extract 7 s.size).data.toList = s.data.toList.drop 7 := by
      rw [ByteArray.data_extract, Array.toList_extract]
      simp only [List.extract]
      exact List.take_of_length_le (by rw [List.length_drop]; omega)
    have hd : decB (bAt s 5 - 48) = ⟨[s.data.toList[5]?.getD 0].toArray⟩ := by
      rw [decB_small (by omega) (by omega)]
      congr 3
      unfold bAt at h7 h9 ⊢
      generalize s.data.toList[5]?.getD 0 = c at *
      apply UInt8.toNat_inj.1
      rw [dig_toNat (by omega)]
      omega
    have h6' : s.data.toList[6]?.getD 0 = 32 := by
      unfold bAt at h6
      apply UInt8.toNat_inj.1
      have : (32 : UInt8).toNat = 32 := rfl
      omega
    unfold canF
    rw [hd]
    apply ByteArray.ext
    apply Array.ext'
    have hs := list_seven s.data.toList (by omega)
    rw [ByteArray.data_append, ByteArray.data_append, ByteArray.data_append, Array.toList_append, Array.toList_append, Array.toList_append, e7, ← e0]
    rw [h6'] at hs
    simpa using hs
  · cases h
theorem flag_same (s : ByteArray) : rfO s = rsF s := by
  cases h1 : rfO s with
  | some v =>
    obtain ⟨k, r, h0, h3, hr, e⟩ := impl_can h1
    rw [e, can_spec h0 h3 r hr, ← can_impl h0 h3 r, ← e, h1]
  | none =>
    cases h2 : rsF s with
    | none => rfl
    | some v =>
      obtain ⟨k, r, h0, h3, hr, e⟩ := spec_can h2
      rw [e, can_impl h0 h3 r] at h1
      rw [e, can_spec h0 h3 r hr, h1] at h2
      cases h2
theorem law_readFlag (xs : List AV) (h : WtA [.str] xs) : T PP 12 xs .nil fun r _ => r = .bool true := by
  simp only [WtA_cons, WtA_nil] at h
  obtain ⟨x, _, rfl, hx, rfl⟩ := h
  obtain ⟨s, rfl, hs⟩ := (WtV_str x).1 hx
  refine (P_code (r := .bool true) (Quiet.q1 q_spec_ReadFlag (Quiet.q1 q_impl_ReadFlag (Quiet.q1 q_laws_eqFlag Quiet.nil))) hmix k_laws_FnExactReadFlag rfl rfl ?_).mono fun r A' h => h.1
  by_cases c : (1048576 : Int) < s.size
  · simp -dsimp -implicitDefEqProofs [c_laws_FnExactReadFlag, r_laws_FnExactReadFlag, c]
  · have hr := sp_readFl_eq s (by omega)
    have hr2 := sp_readFlS_eq s (by omega)
    rw [flag_same s] at hr
    cases ho : rsF s with
    | none =>
      rw [ho] at hr hr2
      simp -dsimp -implicitDefEqProofs [c_laws_FnExactReadFlag, r_laws_FnExactReadFlag, c, hr, hr2, rfA]
    | some p =>
      obtain ⟨k, n, m⟩ := p
      rw [ho] at hr hr2
      simp -dsimp -implicitDefEqProofs [c_laws_FnExactReadFlag, r_laws_FnExactReadFlag, c, hr, hr2, rfA]
end Go.Proofs.YtjfoenibffdoeaaDoorAi
end
