/- Contracts, joined. -/
import Derived.Test.YtgiakpeneckgfaaGreatDoorMrst4
section
/- Contracts: ReadStatement of the program. -/
namespace Go.Proofs.YtgiakpeneckgfaaGreatDoorAi
open Go Go.RowKit
set_option linter.unusedVariables false
set_option linter.unusedSimpArgs false
set_option maxRecDepth 20000

def pfB (s p : ByteArray) : Bool := Go.Lib.hasPrefix s.data.toList p.data.toList
noncomputable def sp_hasP : List AV → Option (AV) := pf (ι := (ByteArray) × (ByteArray)) (α := AV) (fun ⟨s, p⟩ => s.size ≤ 1048576) (fun ⟨s, p⟩ => [.str s, .str p]) (fun ⟨s, p⟩ => .bool (pfB s p))
theorem sp_hasP_eq (s p : ByteArray) (h : s.size ≤ 1048576) : sp_hasP [.str s, .str p] = some (.bool (pfB s p)) := by
  unfold sp_hasP
  exact pf_eq (ι := (ByteArray) × (ByteArray)) (α := AV) (s, p) h (by rintro ⟨s', p'⟩ _ e; simp_all [Int.natCast_inj])
theorem q_strings_HasPrefix : QP PP 20 sp_hasP := by
  refine QP_pf (fun i h => ?_) fun i h => ?_
  · obtain ⟨s, p⟩ := i; exact ⟨by first | rfl | simp, by first | rfl | simp⟩
  obtain ⟨s, p⟩ := i
  refine T.lib ⟨_, Tryz.func20, by kernel_rfl, by kernel_rfl⟩ (fun σ w vs hr hG => ?_) .nil
  obtain ⟨v1, us, rfl, h1, h2⟩ := hr.head
  obtain ⟨v2, us2, rfl, h3, h4⟩ := h2.head
  obtain rfl : us2 = [] := List.eq_nil_of_length_eq_zero h4.1.symm
  cases h1; cases h3
  refine (Tryz.strings_HasPrefix s p w).mono ?_
  rintro e w' ⟨rfl, rfl⟩
  exact ⟨_, rfl, Below.refl _ _, .bool _⟩
/-! ### lists of graphs that grow -/
def lvG (N : Nat) (L : List Gr) : AV := if L = [] then .sl [] true else .ref N 2 0 L.length .full
def obG (L : List Gr) : List (Option (List AV)) := if L = [] then [] else [some (flatA (grsA L))]
theorem lvG_nil (N : Nat) : lvG N [] = .sl [] true := rfl
theorem obG_nil : obG [] = [] := rfl
theorem lvG_cons {N : Nat} {L : List Gr} (h : L ≠ []) : lvG N L = .ref N 2 0 L.length .full := if_neg h
theorem obG_cons {L : List Gr} (h : L ≠ []) : obG L = [some (flatA (grsA L))] := if_neg h
theorem grE_snoc (L : List Gr) (n e : Int) : flatA (grsA L) ++ [.int .i64 n, .int .u32 e] = flatA (grsA (L ++ [⟨n, e⟩])) := by
  rw [flatA_append]; rfl
/-! ### what is read -/
def stI : Nat → ByteArray → List Gr → ByteArray × Bool × List Gr
  | 0, r, G => (r, true, G)
  | k + 1, r, G => if pfB r woB = true then (match rgO (cpA (cutA r lineB) woB) with
      | none => (cutB r lineB, false, G ++ [⟨0, 0⟩])
      | some g => stI k (cutB r lineB) (G ++ [⟨(g.1 : Int), (g.2 : Int)⟩])) else (r, true, G)
def bdW (s : ByteArray) : ByteArray := cpA (cutA s lineB) stWB
def bdP (s : ByteArray) : Int := if readOk (bdW s) = true then numV (topS (bdW s)) else 0
def bdQ (s : ByteArray) : Int := if readOk (bdW s) = true then numV (botS (bdW s)) else 0
def stE (c : Bool) (k : Nat) (r : ByteArray) (G : List Gr) : ByteArray × Bool × List Gr := if c = true then stI k r G else (r, false, G)
def stL (s : ByteArray) : ByteArray × Bool × List Gr := stE (readOk (bdW s)) 6 (cutB s lineB) []
abbrev StV := List Gr × Int × Int × Int × List Tm × Int × Int
def stF (s : ByteArray) : StV → Prop
  | (G, n, e, z, L, p, q) => stB G n e z L p q = true ∧ (stX G n e z L p q == s) = true
open Classical in
noncomputable def isS (s : ByteArray) : Option StV :=
  if (stL s).2.1 = true then (isO (stL s).1).bind fun x => if stF s ((stL s).2.2, x.1, x.2.1, x.2.2.1, x.2.2.2, bdP s, bdQ s) then some ((stL s).2.2, x.1, x.2.1, x.2.2.1, x.2.2.2, bdP s, bdQ s) else none else none
def isA : Option StV → AV
  | some (G, n, e, z, L, p, q) => .tup [.agg [lvG 0 G, .int .i64 n, .int .u32 e, .int .i64 z, lvT (obG G).length L, .int .i64 p, .int .i64 q], .int .i64 0]
  | none => .tup [.agg [.sl [] true, .int .i64 0, .int .u32 0, .int .i64 0, .sl [] true, .int .i64 0, .int .i64 0], .int .i64 5]
def isB : Option StV → List (Option (List AV))
  | some (G, n, e, z, L, p, q) => obG G ++ obT L
  | none => []
theorem isB_inj (o : Option StV) : injB (fun b => b + 3) (isB o).length = true := by
  cases o with
  | none => rfl
  | some x =>
    obtain ⟨G, n, e, z, L, p, q⟩ := x
    show injB (fun b => b + 3) (obG G ++ obT L).length = true
    by_cases hG : G = [] <;> by_cases hL : L = []
    · subst hG; subst hL; rfl
    · subst hG; rw [obT_cons hL]; rfl
    · subst hL; rw [obG_cons hG]; rfl
    · rw [obG_cons hG, obT_cons hL]; rfl
theorem isA_lt0 (o : Option StV) : AV.lt (isB o).length (isA o) = true := by
  cases o with
  | none => rfl
  | some x =>
    obtain ⟨G, n, e, z, L, p, q⟩ := x
    show AV.lt (obG G ++ obT L).length (.tup [.agg [lvG 0 G, .int .i64 n, .int .u32 e, .int .i64 z, lvT (obG G).length L, .int .i64 p, .int .i64 q], .int .i64 0]) = true
    by_cases hG : G = [] <;> by_cases hL : L = []
    · subst hG; subst hL; rfl
    · subst hG; rw [obT_cons hL, lvT_cons hL]; rfl
    · subst hL; rw [obG_cons hG, lvG_cons hG]; rfl
    · rw [obG_cons hG, obT_cons hL, lvG_cons hG, lvT_cons hL]; rfl
theorem cd_read (s : ByteArray) : readR (bdW s) = .tup [.agg [.int .i64 (bdP s), .int .i64 (bdQ s)], .int .i64 (if readOk (bdW s) = true then 0 else 5)] := by
  unfold readR bdP bdQ
  split <;> rfl
def bigA : AV := .tup [.agg [.sl [] true, .int .i64 0, .int .u32 0, .int .i64 0, .sl [] true, .int .i64 0, .int .i64 0], .int .i64 2]
noncomputable def isAA (s : ByteArray) : AV := if 20000 < s.size then bigA else isA (isS s)
noncomputable def isBB (s : ByteArray) : List (Option (List AV)) := if 20000 < s.size then [] else isB (isS s)
noncomputable def sp_readSt : List AV → Option (AV × List (Option (List AV))) := pf (ι := (ByteArray)) (α := AV × List (Option (List AV))) (fun s => s.size ≤ 1048576) (fun s => [.str s]) (fun s => (isAA s, isBB s))
theorem sp_readSt_eq (s : ByteArray) (h : s.size ≤ 1048576) : sp_readSt [.str s] = some ((isAA s, isBB s)) := by
  unfold sp_readSt
  exact pf_eq (ι := (ByteArray)) (α := AV × List (Option (List AV))) s h (by rintro s' _ e; simp_all [Int.natCast_inj])
set_option maxHeartbeats 16000000 in
theorem n_impl_ReadStatement : QN PP 5 sp_readSt := by
  refine QN_pf (fun s h => ?_) fun s h => ?_
  · first | rfl | simp
  replace h : s.size ≤ 1048576 := h
  show T PP 5 [.str s] .nil fun r' A' => r' = (((isAA s, isBB s) : AV × List (Option (List AV)))).1 ∧ A' = ⟨(((isAA s, isBB s) : AV × List (Option (List AV)))).2⟩
  refine H_code (Quiet.q1 q_strings_HasPrefix (Quiet.q1 q_strings_TrimPrefix (Quiet.q1 q_strings_Cut (Quiet.q1 q_impl_ReadGraph (Quiet.q1 q_impl_ReadFraction (Quiet.e1 q_impl_ValidStatement.toR (Quiet.e1 q_impl_statementText.toR (Quiet.e1 n_impl_ReadSum.toE Quiet.nil)))))))) hmix k_impl_ReadStatement rfl (fun b => b + 3) (by simp [AHeap.n, AHeap.nil]) (by intro b hb; simp [AHeap.n, AHeap.nil] at hb) (by unfold isBB; split <;> first | rfl | exact isB_inj _) (by unfold isAA isBB; split <;> first | rfl | exact isA_lt0 _) ?_
  by_cases hbig : 20000 < s.size
  · have hbi : (20000 : Int) < s.size := by omega
    have e1 : isAA s = bigA := if_pos hbig
    have e2 : isBB s = [] := if_pos hbig
    rw [e1, e2]
    simp -dsimp -implicitDefEqProofs [c_impl_ReadStatement, r_impl_ReadStatement, hbi, bigA, hsub]
  have hbi : ¬ (20000 : Int) < s.size := by omega
  have e1 : isAA s = isA (isS s) := if_neg hbig
  have e2 : isBB s = isB (isS s) := if_neg hbig
  rw [e1, e2]
  have hct : sp_cutS [.str s, .str ⟨#[10]⟩] = some (.tup [.str (cutA s lineB), .str (cutB s lineB), .bool (cutI s lineB)]) := sp_cutS_eq s lineB h
  have hcz := cut_sizes s lineB
  have htp : sp_trimP [.str (cutA s lineB), .str ⟨#[115, 116, 97, 116, 101, 109, 101, 110, 116, 32]⟩] = some (.str (bdW s)) := sp_trimP_eq (cutA s lineB) stWB (by omega)
  have hbw : (bdW s).size ≤ 1048576 := by have := cpA_size (cutA s lineB) stWB; unfold bdW; omega
  have hfr := sp_readFr_eq (bdW s) hbw
  rw [cd_read] at hfr
  obtain ⟨R, hR⟩ : ∃ R, R = isS s := ⟨_, rfl⟩
  rw [← hR]
  unfold isS at hR
  have hSL : stE (readOk (bdW s)) 6 (cutB s lineB) [] = stL s := rfl
  generalize stL s = F at *
  generalize bdP s = P at *
  generalize bdQ s = Q at *
  generalize readOk (bdW s) = c0 at *
  simp -dsimp -implicitDefEqProofs [c_impl_ReadStatement, r_impl_ReadStatement, hbi, hct, htp, hfr]
  refine wpLoop_st (fun (x : ByteArray × Bool × List Gr) => ⟨tl [(0, .str s), (2, .ptr 0 0), (5, .str x.1), (8, .int .i64 (if x.2.1 = true then 0 else 5)), (9, .ptr 2 0)], ⟨some [.sl [] true, .int .i64 0, .int .u32 0, .int .i64 0, .sl [] true, .int .i64 0, .int .i64 0] :: some [.int .i64 P, .int .i64 Q] :: some [lvG 3 x.2.2, .int .i64 0, .int .u32 0, .int .i64 0, .sl [] true, .int .i64 P, .int .i64 Q] :: obG x.2.2⟩⟩) (fun x => x.1.size ≤ s.size ∧ x.2.2.length ≤ 6 ∧ grsIn x.2.2 ∧ stE x.2.1 (6 - x.2.2.length) x.1 x.2.2 = F) (fun x => if x.2.1 = true then 7 - x.2.2.length else 0) (cutB s lineB, c0, []) ⟨hcz.2, by simp, (fun x hx => (by cases hx)), hSL⟩ (Sub.keep (by simp [obG_nil]) (by simp [hsub, obG_nil, lvG_nil]) (by simp)) ?_
  rintro ⟨r, c, G⟩ ⟨hrs, hGl, hGi, hE⟩
  simp only at hrs hGl hGi hE
  have hsum := sp_readSm_eq r (by omega)
  have hv := fun (n m : Nat) (z : Int) (L : List Tm) (hm : m ≤ 4294967295) (hu : u32L L) (hl : L.length ≤ maxLen) => sp_validSt_eq G n m z L P Q ⟨⟨by simp only [maxLen]; omega, hGi⟩, ⟨by omega, by omega⟩, hl, hu⟩
  have hx := fun (n m : Nat) (z : Int) (L : List Tm) (hm : m ≤ 4294967295) (hu : u32L L) (hl : L.length ≤ maxLen) (hb : stB G n m z L P Q = true) => sp_stX_eq G n m z L P Q (st_in hb ⟨⟨by simp only [maxLen]; omega, hGi⟩, ⟨by omega, by omega⟩, hl, hu⟩)
  by_cases hG : G = []
  · subst hG
    have l1 : 1 * 17 ≤ mostBytes := by decide
    cases c with
    | false =>
      have hE : (r, false, ([] : List Gr)) = F := hE
      cases hO : isO r with
      | none =>
        rw [hO] at hsum
        have hR : R = none := by rw [hR, ← hE]; rfl
        subst hR
        simp -dsimp -implicitDefEqProofs [hbi, hsum, rsA, rsB, obG_nil, lvG_nil, isA, isB, hsub]
      | some x =>
        obtain ⟨n, m, z, L, rfl, hm, hu, hF⟩ := isO_in hO
        have hl : L.length ≤ maxLen := by have := (sumB_in hF.1 (by omega) hu).2.2.1; simp only [maxLen]; omega
        rw [hO] at hsum
        have hR : R = none := by rw [hR, ← hE]; rfl
        subst hR
        replace hv := hv n m z L hm hu hl
        replace hx := hx n m z L hm hu hl
        by_cases hL : L = []
        · subst hL
          simp -dsimp -implicitDefEqProofs [hbi, hsum, rsA, rsB, obG_nil, lvG_nil, obT_nil, lvT_nil, isA, isB, hsub]
        · simp -dsimp -implicitDefEqProofs [hbi, hsum, rsA, rsB, obG_nil, lvG_nil, obT_cons hL, lvT_cons hL, isA, isB, hsub]
    | true =>
      have hpf : sp_hasP [.str r, .str ⟨#[119, 105, 116, 104, 111, 117, 116, 32]⟩] = some (.bool (pfB r woB)) := sp_hasP_eq r woB (by omega)
      cases hp : pfB r woB with
      | false =>
        rw [hp] at hpf
        have hE : (r, true, ([] : List Gr)) = F := by rw [← hE]; show _ = stI _ _ _; cases 6 - ([] : List Gr).length with
          | zero => rfl
          | succ k => rw [stI, if_neg (by rw [hp]; decide)]
        cases hO : isO r with
        | none =>
          rw [hO] at hsum
          rw [← hE, hO] at hR
          have hR : R = none := by rw [hR]; rfl
          subst hR
          simp -dsimp -implicitDefEqProofs [hpf, hsum, rsA, rsB, obG_nil, lvG_nil, isA, isB, hsub]
        | some x =>
          obtain ⟨n, m, z, L, rfl, hm, hu, hF⟩ := isO_in hO
          have hl : L.length ≤ maxLen := by have := (sumB_in hF.1 (by omega) hu).2.2.1; simp only [maxLen]; omega
          rw [hO] at hsum
          rw [← hE, hO] at hR
          have hR : R = (open Classical in if stF s (([] : List Gr), (n : Int), (m : Int), z, L, P, Q) then some (([] : List Gr), (n : Int), (m : Int), z, L, P, Q) else none) := hR
          replace hv := hv n m z L hm hu hl
          replace hx := hx n m z L hm hu hl
          by_cases hL : L = []
          · subst hL
            have hv : sp_validSt [.agg [.sl [] false, .int .i64 n, .int .u32 m, .int .i64 z, .sl [] false, .int .i64 P, .int .i64 Q]] = some (.bool (stB [] n m z [] P Q)) := hv
            cases hb : stB [] n m z [] P Q with
            | false =>
              rw [hb] at hv
              have hR2 : R = none := by rw [hR, if_neg]; intro hF; rw [stF, hb] at hF; exact absurd hF.1 (by decide)
              subst hR2
              simp -dsimp -implicitDefEqProofs [hpf, hsum, rsA, rsB, obG_nil, lvG_nil, obT_nil, lvT_nil, hv, isA, isB, hsub]
            | true =>
              rw [hb] at hv
              have hx : sp_stX [.agg [.sl [] false, .int .i64 n, .int .u32 m, .int .i64 z, .sl [] false, .int .i64 P, .int .i64 Q]] = some (.str (stX [] n m z [] P Q)) := hx hb
              cases hq : (stX [] n m z [] P Q == s) with
              | false =>
                have hq' : (stX [] n m z [] P Q != s) = true := by unfold bne; rw [hq]; rfl
                have hR2 : R = none := by rw [hR, if_neg]; intro hF; rw [stF, hq] at hF; exact absurd hF.2 (by decide)
                subst hR2
                simp -dsimp -implicitDefEqProofs [hpf, hsum, rsA, rsB, obG_nil, lvG_nil, obT_nil, lvT_nil, hv, hx, hq, hq', isA, isB, hsub]
              | true =>
                have hq' : (stX [] n m z [] P Q != s) = false := by unfold bne; rw [hq]; rfl
                have hR2 : R = some ([], (n : Int), (m : Int), z, [], P, Q) := by rw [hR, if_pos]; exact ⟨hb, hq⟩
                subst hR2
                simp -dsimp -implicitDefEqProofs [hpf, hsum, rsA, rsB, obG_nil, lvG_nil, obT_nil, lvT_nil, hv, hx, hq, hq', isA, isB, hsub]
          · have hv : sp_validSt [.agg [.sl [] false, .int .i64 n, .int .u32 m, .int .i64 z, .sl (tmsA L) false, .int .i64 P, .int .i64 Q]] = some (.bool (stB [] n m z L P Q)) := hv
            cases hb : stB [] n m z L P Q with
            | false =>
              rw [hb] at hv
              have hR2 : R = none := by rw [hR, if_neg]; intro hF; rw [stF, hb] at hF; exact absurd hF.1 (by decide)
              subst hR2
              simp -dsimp -implicitDefEqProofs [hpf, hsum, rsA, rsB, obG_nil, lvG_nil, obT_cons hL, lvT_cons hL, hv, isA, isB, hsub]
            | true =>
              rw [hb] at hv
              have hx : sp_stX [.agg [.sl [] false, .int .i64 n, .int .u32 m, .int .i64 z, .sl (tmsA L) false, .int .i64 P, .int .i64 Q]] = some (.str (stX [] n m z L P Q)) := hx hb
              cases hq : (stX [] n m z L P Q == s) with
              | false =>
                have hq' : (stX [] n m z L P Q != s) = true := by unfold bne; rw [hq]; rfl
                have hR2 : R = none := by rw [hR, if_neg]; intro hF; rw [stF, hq] at hF; exact absurd hF.2 (by decide)
                subst hR2
                simp -dsimp -implicitDefEqProofs [hpf, hsum, rsA, rsB, obG_nil, lvG_nil, obT_cons hL, lvT_cons hL, hv, hx, hq, hq', isA, isB, hsub]
              | true =>
                have hq' : (stX [] n m z L P Q != s) = false := by unfold bne; rw [hq]; rfl
                have hR2 : R = some ([], (n : Int), (m : Int), z, L, P, Q) := by rw [hR, if_pos]; exact ⟨hb, hq⟩
                subst hR2
                simp -dsimp -implicitDefEqProofs [hpf, hsum, rsA, rsB, obG_nil, lvG_nil, obT_cons hL, lvT_cons hL, hv, hx, hq, hq', isA, isB, hsub]
      | true =>
        rw [hp] at hpf
        obtain ⟨k, hk⟩ : ∃ k, 6 - ([] : List Gr).length = k + 1 := ⟨5, rfl⟩
        have hE : stI (k + 1) r [] = F := by rw [← hE, hk]; rfl
        rw [stI, if_pos hp] at hE
        have hct2 : sp_cutS [.str r, .str ⟨#[10]⟩] = some (.tup [.str (cutA r lineB), .str (cutB r lineB), .bool (cutI r lineB)]) := sp_cutS_eq r lineB (by omega)
        have hcz2 := cut_sizes r lineB
        have htp2 : sp_trimP [.str (cutA r lineB), .str ⟨#[119, 105, 116, 104, 111, 117, 116, 32]⟩] = some (.str (cpA (cutA r lineB) woB)) := sp_trimP_eq (cutA r lineB) woB (by omega)
        have hgr := sp_readGr_eq (cpA (cutA r lineB) woB) (by have := cpA_size (cutA r lineB) woB; omega)
        cases hl : rgO (cpA (cutA r lineB) woB) with
        | none =>
          rw [hl] at hgr hE
          have e5 : [(⟨0, 0⟩ : Gr)] ≠ [] := by simp
          simp -dsimp -implicitDefEqProofs [obG_nil, lvG_nil, hpf, hct2, htp2, hgr, rgA, l1]
          refine .mk (cutB r lineB, false, [(⟨0, 0⟩ : Gr)]) ⟨by simp only; omega, by simp; try omega, ?_, hE⟩ (by simp; try omega) (Sub.mk' (fun b => if b = 3 then 5 else b) (by simp [obG_cons e5]) (by intro b hb; simp [obG_cons e5] at hb <;> omega) (by first | rfl | (rw [obG_cons e5]; rfl)) (by simp [hsub, obG_cons e5, lvG_cons e5, flatA_cons]) (by simp))
          intro x hx9
          obtain rfl := List.mem_singleton.1 hx9
          simp only; omega
        | some g2 =>
          obtain ⟨n2, m2⟩ := g2
          have hnm2 := rgO_lt hl
          rw [hl] at hgr hE
          have e5 : [(⟨(n2 : Int), (m2 : Int)⟩ : Gr)] ≠ [] := by simp
          simp -dsimp -implicitDefEqProofs [obG_nil, lvG_nil, hpf, hct2, htp2, hgr, rgA, l1]
          refine .mk (cutB r lineB, true, [(⟨(n2 : Int), (m2 : Int)⟩ : Gr)]) ⟨by simp only; omega, by simp; try omega, ?_, by rw [← hE]; show stI _ _ _ = stI _ _ _; congr 1; simp at hk ⊢; omega⟩ (by simp; try omega) (Sub.mk' (fun b => if b = 3 then 5 else b) (by simp [obG_cons e5]) (by intro b hb; simp [obG_cons e5] at hb <;> omega) (by first | rfl | (rw [obG_cons e5]; rfl)) (by simp [hsub, obG_cons e5, lvG_cons e5, flatA_cons]) (by simp))
          intro x hx9
          obtain rfl := List.mem_singleton.1 hx9
          simp only; omega
  · have l2 : ¬ ((G.length + 1) * 2 ≤ G.length * 2) := by omega
    have l1 : (G.length + 1) * 17 ≤ mostBytes := by simp only [mostBytes]; omega
    have l3 : (flatA (grsA G)).take (G.length * 2) = flatA (grsA G) := List.take_of_length_le (by simp)
    cases c with
    | false =>
      have hE : (r, false, G) = F := hE
      cases hO : isO r with
      | none =>
        rw [hO] at hsum
        have hR : R = none := by rw [hR, ← hE]; rfl
        subst hR
        simp -dsimp -implicitDefEqProofs [hbi, hsum, rsA, rsB, obG_cons hG, lvG_cons hG, isA, isB, hsub]
      | some x =>
        obtain ⟨n, m, z, L, rfl, hm, hu, hF⟩ := isO_in hO
        have hl : L.length ≤ maxLen := by have := (sumB_in hF.1 (by omega) hu).2.2.1; simp only [maxLen]; omega
        rw [hO] at hsum
        have hR : R = none := by rw [hR, ← hE]; rfl
        subst hR
        replace hv := hv n m z L hm hu hl
        replace hx := hx n m z L hm hu hl
        by_cases hL : L = []
        · subst hL
          simp -dsimp -implicitDefEqProofs [hbi, hsum, rsA, rsB, obG_cons hG, lvG_cons hG, obT_nil, lvT_nil, isA, isB, hsub]
        · simp -dsimp -implicitDefEqProofs [hbi, hsum, rsA, rsB, obG_cons hG, lvG_cons hG, obT_cons hL, lvT_cons hL, isA, isB, hsub]
    | true =>
      have hpf : sp_hasP [.str r, .str ⟨#[119, 105, 116, 104, 111, 117, 116, 32]⟩] = some (.bool (pfB r woB)) := sp_hasP_eq r woB (by omega)
      cases hp : pfB r woB with
      | false =>
        rw [hp] at hpf
        have hE : (r, true, (G : List Gr)) = F := by rw [← hE]; show _ = stI _ _ _; cases 6 - (G : List Gr).length with
          | zero => rfl
          | succ k => rw [stI, if_neg (by rw [hp]; decide)]
        cases hO : isO r with
        | none =>
          rw [hO] at hsum
          rw [← hE, hO] at hR
          have hR : R = none := by rw [hR]; rfl
          subst hR
          simp -dsimp -implicitDefEqProofs [hpf, hsum, rsA, rsB, obG_cons hG, lvG_cons hG, isA, isB, hsub]
        | some x =>
          obtain ⟨n, m, z, L, rfl, hm, hu, hF⟩ := isO_in hO
          have hl : L.length ≤ maxLen := by have := (sumB_in hF.1 (by omega) hu).2.2.1; simp only [maxLen]; omega
          rw [hO] at hsum
          rw [← hE, hO] at hR
          have hR : R = (open Classical in if stF s (G, (n : Int), (m : Int), z, L, P, Q) then some (G, (n : Int), (m : Int), z, L, P, Q) else none) := hR
          replace hv := hv n m z L hm hu hl
          replace hx := hx n m z L hm hu hl
          by_cases hL : L = []
          · subst hL
            have hv : sp_validSt [.agg [.sl (grsA G) false, .int .i64 n, .int .u32 m, .int .i64 z, .sl [] false, .int .i64 P, .int .i64 Q]] = some (.bool (stB G n m z [] P Q)) := hv
            cases hb : stB G n m z [] P Q with
            | false =>
              rw [hb] at hv
              have hR2 : R = none := by rw [hR, if_neg]; intro hF; rw [stF, hb] at hF; exact absurd hF.1 (by decide)
              subst hR2
              simp -dsimp -implicitDefEqProofs [hpf, hsum, rsA, rsB, obG_cons hG, lvG_cons hG, obT_nil, lvT_nil, hv, isA, isB, hsub]
            | true =>
              rw [hb] at hv
              have hx : sp_stX [.agg [.sl (grsA G) false, .int .i64 n, .int .u32 m, .int .i64 z, .sl [] false, .int .i64 P, .int .i64 Q]] = some (.str (stX G n m z [] P Q)) := hx hb
              cases hq : (stX G n m z [] P Q == s) with
              | false =>
                have hq' : (stX G n m z [] P Q != s) = true := by unfold bne; rw [hq]; rfl
                have hR2 : R = none := by rw [hR, if_neg]; intro hF; rw [stF, hq] at hF; exact absurd hF.2 (by decide)
                subst hR2
                simp -dsimp -implicitDefEqProofs [hpf, hsum, rsA, rsB, obG_cons hG, lvG_cons hG, obT_nil, lvT_nil, hv, hx, hq, hq', isA, isB, hsub]
              | true =>
                have hq' : (stX G n m z [] P Q != s) = false := by unfold bne; rw [hq]; rfl
                have hR2 : R = some (G, (n : Int), (m : Int), z, [], P, Q) := by rw [hR, if_pos]; exact ⟨hb, hq⟩
                subst hR2
                simp -dsimp -implicitDefEqProofs [hpf, hsum, rsA, rsB, obG_cons hG, lvG_cons hG, obT_nil, lvT_nil, hv, hx, hq, hq', isA, isB, hsub]
          · have hv : sp_validSt [.agg [.sl (grsA G) false, .int .i64 n, .int .u32 m, .int .i64 z, .sl (tmsA L) false, .int .i64 P, .int .i64 Q]] = some (.bool (stB G n m z L P Q)) := hv
            cases hb : stB G n m z L P Q with
            | false =>
              rw [hb] at hv
              have hR2 : R = none := by rw [hR, if_neg]; intro hF; rw [stF, hb] at hF; exact absurd hF.1 (by decide)
              subst hR2
              simp -dsimp -implicitDefEqProofs [hpf, hsum, rsA, rsB, obG_cons hG, lvG_cons hG, obT_cons hL, lvT_cons hL, hv, isA, isB, hsub]
            | true =>
              rw [hb] at hv
              have hx : sp_stX [.agg [.sl (grsA G) false, .int .i64 n, .int .u32 m, .int .i64 z, .sl (tmsA L) false, .int .i64 P, .int .i64 Q]] = some (.str (stX G n m z L P Q)) := hx hb
              cases hq : (stX G n m z L P Q == s) with
              | false =>
                have hq' : (stX G n m z L P Q != s) = true := by unfold bne; rw [hq]; rfl
                have hR2 : R = none := by rw [hR, if_neg]; intro hF; rw [stF, hq] at hF; exact absurd hF.2 (by decide)
                subst hR2
                simp -dsimp -implicitDefEqProofs [hpf, hsum, rsA, rsB, obG_cons hG, lvG_cons hG, obT_cons hL, lvT_cons hL, hv, hx, hq, hq', isA, isB, hsub]
              | true =>
                have hq' : (stX G n m z L P Q != s) = false := by unfold bne; rw [hq]; rfl
                have hR2 : R = some (G, (n : Int), (m : Int), z, L, P, Q) := by rw [hR, if_pos]; exact ⟨hb, hq⟩
                subst hR2
                simp -dsimp -implicitDefEqProofs [hpf, hsum, rsA, rsB, obG_cons hG, lvG_cons hG, obT_cons hL, lvT_cons hL, hv, hx, hq, hq', isA, isB, hsub]
      | true =>
        rw [hp] at hpf
        by_cases h6 : G.length < 6
        · have h6i : (G.length : Int) < 6 := by omega
          obtain ⟨k, hk⟩ : ∃ k, 6 - G.length = k + 1 := ⟨5 - G.length, by omega⟩
          have hE : stI (k + 1) r G = F := by rw [← hE, hk]; rfl
          rw [stI, if_pos hp] at hE
          have hct2 : sp_cutS [.str r, .str ⟨#[10]⟩] = some (.tup [.str (cutA r lineB), .str (cutB r lineB), .bool (cutI r lineB)]) := sp_cutS_eq r lineB (by omega)
          have hcz2 := cut_sizes r lineB
          have htp2 : sp_trimP [.str (cutA r lineB), .str ⟨#[119, 105, 116, 104, 111, 117, 116, 32]⟩] = some (.str (cpA (cutA r lineB) woB)) := sp_trimP_eq (cutA r lineB) woB (by omega)
          have hgr := sp_readGr_eq (cpA (cutA r lineB) woB) (by have := cpA_size (cutA r lineB) woB; omega)
          cases hl : rgO (cpA (cutA r lineB) woB) with
          | none =>
            rw [hl] at hgr hE
            have e5 : G ++ [(⟨0, 0⟩ : Gr)] ≠ [] := by simp
            have e2 := grE_snoc G 0 0
            simp -dsimp -implicitDefEqProofs [obG_cons hG, lvG_cons hG, hpf, h6, h6i, hct2, htp2, hgr, rgA, l1, e2, l2, l3]
            refine .mk (cutB r lineB, false, G ++ [(⟨0, 0⟩ : Gr)]) ⟨by simp only; omega, by simp; try omega, ?_, hE⟩ (by simp; try omega) (Sub.mk' (fun b => if b = 3 then 6 else b) (by simp [obG_cons e5]) (by intro b hb; simp [obG_cons e5] at hb <;> omega) (by first | rfl | (rw [obG_cons e5]; rfl)) (by simp [hsub, obG_cons e5, lvG_cons e5]) (by simp))
            intro x hx9
            rcases List.mem_append.1 hx9 with hx9 | hx9
            · exact hGi x hx9
            · obtain rfl := List.mem_singleton.1 hx9
              simp only; omega
          | some g2 =>
            obtain ⟨n2, m2⟩ := g2
            have hnm2 := rgO_lt hl
            rw [hl] at hgr hE
            have e5 : G ++ [(⟨(n2 : Int), (m2 : Int)⟩ : Gr)] ≠ [] := by simp
            have e2 := grE_snoc G n2 m2
            simp -dsimp -implicitDefEqProofs [obG_cons hG, lvG_cons hG, hpf, h6, h6i, hct2, htp2, hgr, rgA, l1, e2, l2, l3]
            refine .mk (cutB r lineB, true, G ++ [(⟨(n2 : Int), (m2 : Int)⟩ : Gr)]) ⟨by simp only; omega, by simp; try omega, ?_, by rw [← hE]; show stI _ _ _ = stI _ _ _; congr 1; simp at hk ⊢; omega⟩ (by simp; try omega) (Sub.mk' (fun b => if b = 3 then 6 else b) (by simp [obG_cons e5]) (by intro b hb; simp [obG_cons e5] at hb <;> omega) (by first | rfl | (rw [obG_cons e5]; rfl)) (by simp [hsub, obG_cons e5, lvG_cons e5]) (by simp))
            intro x hx9
            rcases List.mem_append.1 hx9 with hx9 | hx9
            · exact hGi x hx9
            · obtain rfl := List.mem_singleton.1 hx9
              simp only; omega
        · have h6i : ¬ (G.length : Int) < 6 := by omega
          have hE : (r, true, G) = F := by rw [← hE, show 6 - G.length = 0 by omega]; rfl
          cases hO : isO r with
          | none =>
            rw [hO] at hsum
            rw [← hE, hO] at hR
            have hR : R = none := by rw [hR]; rfl
            subst hR
            simp -dsimp -implicitDefEqProofs [hpf, h6, h6i, hsum, rsA, rsB, obG_cons hG, lvG_cons hG, isA, isB, hsub]
          | some x =>
            obtain ⟨n, m, z, L, rfl, hm, hu, hF⟩ := isO_in hO
            have hl : L.length ≤ maxLen := by have := (sumB_in hF.1 (by omega) hu).2.2.1; simp only [maxLen]; omega
            rw [hO] at hsum
            rw [← hE, hO] at hR
            have hR : R = (open Classical in if stF s (G, (n : Int), (m : Int), z, L, P, Q) then some (G, (n : Int), (m : Int), z, L, P, Q) else none) := hR
            replace hv := hv n m z L hm hu hl
            replace hx := hx n m z L hm hu hl
            by_cases hL : L = []
            · subst hL
              have hv : sp_validSt [.agg [.sl (grsA G) false, .int .i64 n, .int .u32 m, .int .i64 z, .sl [] false, .int .i64 P, .int .i64 Q]] = some (.bool (stB G n m z [] P Q)) := hv
              cases hb : stB G n m z [] P Q with
              | false =>
                rw [hb] at hv
                have hR2 : R = none := by rw [hR, if_neg]; intro hF; rw [stF, hb] at hF; exact absurd hF.1 (by decide)
                subst hR2
                simp -dsimp -implicitDefEqProofs [hpf, h6, h6i, hsum, rsA, rsB, obG_cons hG, lvG_cons hG, obT_nil, lvT_nil, hv, isA, isB, hsub]
              | true =>
                rw [hb] at hv
                have hx : sp_stX [.agg [.sl (grsA G) false, .int .i64 n, .int .u32 m, .int .i64 z, .sl [] false, .int .i64 P, .int .i64 Q]] = some (.str (stX G n m z [] P Q)) := hx hb
                cases hq : (stX G n m z [] P Q == s) with
                | false =>
                  have hq' : (stX G n m z [] P Q != s) = true := by unfold bne; rw [hq]; rfl
                  have hR2 : R = none := by rw [hR, if_neg]; intro hF; rw [stF, hq] at hF; exact absurd hF.2 (by decide)
                  subst hR2
                  simp -dsimp -implicitDefEqProofs [hpf, h6, h6i, hsum, rsA, rsB, obG_cons hG, lvG_cons hG, obT_nil, lvT_nil, hv, hx, hq, hq', isA, isB, hsub]
                | true =>
                  have hq' : (stX G n m z [] P Q != s) = false := by unfold bne; rw [hq]; rfl
                  have hR2 : R = some (G, (n : Int), (m : Int), z, [], P, Q) := by rw [hR, if_pos]; exact ⟨hb, hq⟩
                  subst hR2
                  simp -dsimp -implicitDefEqProofs [hpf, h6, h6i, hsum, rsA, rsB, obG_cons hG, lvG_cons hG, obT_nil, lvT_nil, hv, hx, hq, hq', isA, isB, hsub]
            · have hv : sp_validSt [.agg [.sl (grsA G) false, .int .i64 n, .int .u32 m, .int .i64 z, .sl (tmsA L) false, .int .i64 P, .int .i64 Q]] = some (.bool (stB G n m z L P Q)) := hv
              cases hb : stB G n m z L P Q with
              | false =>
                rw [hb] at hv
                have hR2 : R = none := by rw [hR, if_neg]; intro hF; rw [stF, hb] at hF; exact absurd hF.1 (by decide)
                subst hR2
                simp -dsimp -implicitDefEqProofs [hpf, h6, h6i, hsum, rsA, rsB, obG_cons hG, lvG_cons hG, obT_cons hL, lvT_cons hL, hv, isA, isB, hsub]
              | true =>
                rw [hb] at hv
                have hx : sp_stX [.agg [.sl (grsA G) false, .int .i64 n, .int .u32 m, .int .i64 z, .sl (tmsA L) false, .int .i64 P, .int .i64 Q]] = some (.str (stX G n m z L P Q)) := hx hb
                cases hq : (stX G n m z L P Q == s) with
                | false =>
                  have hq' : (stX G n m z L P Q != s) = true := by unfold bne; rw [hq]; rfl
                  have hR2 : R = none := by rw [hR, if_neg]; intro hF; rw [stF, hq] at hF; exact absurd hF.2 (by decide)
                  subst hR2
                  simp -dsimp -implicitDefEqProofs [hpf, h6, h6i, hsum, rsA, rsB, obG_cons hG, lvG_cons hG, obT_cons hL, lvT_cons hL, hv, hx, hq, hq', isA, isB, hsub]
                | true =>
                  have hq' : (stX G n m z L P Q != s) = false := by unfold bne; rw [hq]; rfl
                  have hR2 : R = some (G, (n : Int), (m : Int), z, L, P, Q) := by rw [hR, if_pos]; exact ⟨hb, hq⟩
                  subst hR2
                  simp -dsimp -implicitDefEqProofs [hpf, h6, h6i, hsum, rsA, rsB, obG_cons hG, lvG_cons hG, obT_cons hL, lvT_cons hL, hv, hx, hq, hq', isA, isB, hsub]
end Go.Proofs.YtgiakpeneckgfaaGreatDoorAi
end

section
/- Contracts: ReadStatement of the reference. -/
namespace Go.Proofs.YtgiakpeneckgfaaGreatDoorAi
open Go Go.RowKit
set_option linter.unusedVariables false
set_option linter.unusedSimpArgs false
set_option maxRecDepth 20000

/-! ### texts that begin so; lines -/
def bgB (s p : ByteArray) : Bool := decide (p.size ≤ s.size) && (s.extract 0 p.size == p)
noncomputable def sp_l06Begins : List AV → Option (AV) := pf (ι := (ByteArray) × (ByteArray)) (α := AV) (fun ⟨s, p⟩ => s.size ≤ 1048576 ∧ p.size ≤ 1048576) (fun ⟨s, p⟩ => [.str s, .str p]) (fun ⟨s, p⟩ => .bool (bgB s p))
theorem sp_l06Begins_eq (s p : ByteArray) (h : s.size ≤ 1048576 ∧ p.size ≤ 1048576) : sp_l06Begins [.str s, .str p] = some (.bool (bgB s p)) := by
  unfold sp_l06Begins
  exact pf_eq (ι := (ByteArray) × (ByteArray)) (α := AV) (s, p) h (by rintro ⟨s', p'⟩ _ e; simp_all [Int.natCast_inj])
theorem q_spec_l06Begins : QP PP 10 sp_l06Begins := by
  refine QP_pf (fun i h => ?_) fun i h => ?_
  · obtain ⟨s, p⟩ := i; exact ⟨by first | rfl | simp, by first | rfl | simp⟩
  obtain ⟨s, p⟩ := i
  replace h : s.size ≤ 1048576 ∧ p.size ≤ 1048576 := h
  refine P_code Quiet.nil hmix k_spec_l06Begins rfl ?_ ?_
  · first | rfl | simp
  show wpc 0 PP _ c_spec_l06Begins (initSt [.str s, .str p] .nil) (endP r_spec_l06Begins (.bool (bgB s p)))
  unfold bgB
  by_cases c : p.size ≤ s.size
  · have ci : (p.size : Int) ≤ s.size := by omega
    simp -dsimp -implicitDefEqProofs [c_spec_l06Begins, r_spec_l06Begins, c, ci]
  · have ci : ¬ (p.size : Int) ≤ s.size := by omega
    simp -dsimp -implicitDefEqProofs [c_spec_l06Begins, r_spec_l06Begins, c, ci]
def lnB (w : ByteArray) (L : List ByteArray) : ByteArray := L.foldl (fun w x => w ++ (x ++ lineB)) w
def lnZ (L : List ByteArray) : Nat := (L.map fun x => x.size + 1).sum
theorem lnZ_app (L M : List ByteArray) : lnZ (L ++ M) = lnZ L + lnZ M := by simp [lnZ]
theorem lnZ_cons (x : ByteArray) (L : List ByteArray) : lnZ (x :: L) = x.size + 1 + lnZ L := by simp [lnZ]
theorem lnZ_nil : lnZ [] = 0 := rfl
theorem lnB_size : ∀ (L : List ByteArray) (w : ByteArray), (lnB w L).size = w.size + lnZ L
  | [], w => rfl
  | x :: L, w => by
    show (lnB (w ++ (x ++ lineB)) L).size = _
    rw [lnB_size L, lnZ_cons]
    simp only [ByteArray.size_append, show lineB.size = 1 from rfl]
    omega
theorem lnB_snoc (w : ByteArray) (L : List ByteArray) (i : Nat) (h : i < L.length) : lnB w (L.take (i + 1)) = lnB w (L.take i) ++ (L[i] ++ lineB) := by
  unfold lnB
  rw [take_snoc L i h, List.foldl_append]; rfl
theorem lnZ_split (L : List ByteArray) (i : Nat) : lnZ (L.take i) + lnZ (L.drop i) = lnZ L := by
  rw [← lnZ_app, List.take_append_drop]
theorem lnZ_splF (s : ByteArray) (c : Int) : ∀ k i f out, i + k = s.size → f ≤ i → lnZ (splF s c k i f out) = lnZ out + (s.size - f) + 1
  | 0, i, f, out, h, hf => by
    rw [splF, lnZ_app, lnZ_cons, lnZ_nil]
    simp only [ByteArray.size_extract]; omega
  | k + 1, i, f, out, h, hf => by
    rw [splF]
    split
    · rw [lnZ_splF s c k (i + 1) (i + 1) _ (by omega) (Nat.le_refl _), lnZ_app, lnZ_cons, lnZ_nil]
      simp only [ByteArray.size_extract]; omega
    · rw [lnZ_splF s c k (i + 1) f out (by omega) (by omega)]
theorem lnZ_splitL (s : ByteArray) (c : Int) : lnZ (splitL s c) = s.size + 1 := by
  unfold splitL
  rw [lnZ_splF s c s.size 0 0 [] (by omega) (Nat.le_refl _), lnZ_nil]
  omega
theorem lnZ_part (L : List ByteArray) (i : Nat) : lnZ (L.drop i).dropLast ≤ lnZ L := by
  have h1 := lnZ_split L i
  have h2 := lnZ_split (L.drop i) ((L.drop i).length - 1)
  rw [List.dropLast_eq_take]
  omega
noncomputable def sp_l06Lines : List AV → Option (AV) := pf (ι := (List ByteArray)) (α := AV) (fun L => lnZ L ≤ 1048577 ∧ L.length ≤ maxLen) (fun L => [.sl (strsA L) false]) (fun L => .str (lnB noB L))
theorem sp_l06Lines_eq (L : List ByteArray) (h : lnZ L ≤ 1048577 ∧ L.length ≤ maxLen) : sp_l06Lines [.sl (strsA L) false] = some (.str (lnB noB L)) := by
  unfold sp_l06Lines
  exact pf_eq (ι := (List ByteArray)) (α := AV) L h (by rintro L' _ e; simp_all [Int.natCast_inj])
theorem q_spec_l06Lines : QP PP 14 sp_l06Lines := by
  refine QP_pf (fun L h => ?_) fun L h => ?_
  · exact ⟨by first | rfl | simp, by first | rfl | simp⟩
  replace h : lnZ L ≤ 1048577 ∧ L.length ≤ maxLen := h
  refine P_code Quiet.nil hmix k_spec_l06Lines rfl ?_ ?_
  · first | rfl | simp
  show wpc 0 PP _ c_spec_l06Lines (initSt [.sl (strsA L) false] .nil) (endP r_spec_l06Lines (.str (lnB noB L)))
  obtain ⟨hz, hl⟩ := h
  simp only [maxLen] at hl
  simp -dsimp -implicitDefEqProofs [c_spec_l06Lines, r_spec_l06Lines]
  refine wpLoop_st (fun (i : Nat) => ⟨tl [(0, .sl (strsA L) false), (3, .str (lnB noB (L.take i))), (4, .int .i64 i)], ⟨[]⟩⟩) (fun i => i ≤ L.length) (fun i => L.length - i) 0 (Nat.zero_le _) (Sub.keep (by simp) (by simp [hsub]) (by simp [lnB, noB])) ?_
  intro i hi
  simp -dsimp -implicitDefEqProofs
  refine brW_of (fun h => ?_) (fun h => ?_) <;> simp only [decide_eq_true_eq, decide_eq_false_iff_not] at h
  · have hx : i < L.length := by omega
    have hwi := wrapNat (i := i) (by omega)
    have gq : (strsA L)[i]? = some (.str L[i]) := by simp [hx]
    have hs := lnB_snoc noB L i hx
    have z1 := lnZ_split L (i + 1)
    have z2 := lnB_size (L.take (i + 1)) noB
    have z3 := congrArg ByteArray.size hs
    simp only [ByteArray.size_append, show noB.size = 0 from rfl, show lineB.size = 1 from rfl] at z2 z3
    have e1 : (⟨#[10]⟩ : ByteArray) = lineB := rfl
    have hlz : lineB.size = 1 := rfl
    have z4 := lnB_size (L.take i) noB
    simp only [show noB.size = 0 from rfl] at z4
    have f1 : L[i].size + lineB.size ≤ 9223372036854775807 := by omega
    have f2 : (lnB noB (L.take i)).size + (L[i] ++ lineB).size ≤ 9223372036854775807 := by rw [ByteArray.size_append]; omega
    have f3 : (lnB noB (L.take i)).size + (L[i].size + lineB.size) ≤ 9223372036854775807 := by omega
    simp -dsimp -implicitDefEqProofs [hx, hwi, gq, e1, f1, f2, f3, ← hs]
    exact .mk (i + 1) (by omega) (by omega) (Sub.keep (by simp) (by simp [hsub]) (by simp [hwi]))
  · have hi : i = L.length := by omega
    subst hi
    rw [List.take_length]
    simp -dsimp -implicitDefEqProofs
/-! ### the graphs are seen by value from here on -/
theorem Shift.grs {N : Nat} {t : Nat → AV} {o0 o1 o2 : Option (List AV)} {a b c d x y : AV} {L : List Gr} : Shift N ⟨t, ⟨[o0, o1, o2, some [.ref 4 2 0 L.length .full, a, b, c, d, x, y], some (flatA (grsA L))]⟩⟩ ⟨t, ⟨[o0, o1, o2, some [.sl (grsA L) false, a, b, c, d, x, y], none]⟩⟩ := by
  refine Shift.freeze (b := 4) (cs := flatA (grsA L)) rfl (fun i => .inr (Fz.refl _ _ _)) rfl (fun i l' h => ?_)
  match i, h with
  | 0, h => exact ⟨by decide, l', h, rfl, fun i x x' e1 e2 => .inl (by rw [e1] at e2; exact (Option.some.inj e2).symm)⟩
  | 1, h => exact ⟨by decide, l', h, rfl, fun i x x' e1 e2 => .inl (by rw [e1] at e2; exact (Option.some.inj e2).symm)⟩
  | 2, h => exact ⟨by decide, l', h, rfl, fun i x x' e1 e2 => .inl (by rw [e1] at e2; exact (Option.some.inj e2).symm)⟩
  | 3, h =>
    have h : some [.sl (grsA L) false, a, b, c, d, x, y] = some l' := h
    injection h with h
    subst h
    refine ⟨by decide, _, rfl, rfl, fun i u u' e1 e2 => ?_⟩
    match i, e1, e2 with
    | 0, e1, e2 =>
      cases e1; cases e2
      exact .inr (.inr ⟨2, 0, L.length, .full, grsA L, false, rfl, rfl, (fun h => by cases h), by simp, by simp, grsA_cells L, .inl (by simp; exact (List.take_of_length_le (by simp)).symm)⟩)
    | 1, e1, e2 => cases e1; cases e2; exact .inl rfl
    | 2, e1, e2 => cases e1; cases e2; exact .inl rfl
    | 3, e1, e2 => cases e1; cases e2; exact .inl rfl
    | 4, e1, e2 => cases e1; cases e2; exact .inl rfl
    | 5, e1, e2 => cases e1; cases e2; exact .inl rfl
    | 6, e1, e2 => cases e1; cases e2; exact .inl rfl
    | k + 7, e1, e2 => cases e1
  | 4, h => cases h
  | k + 5, h => cases h
theorem Shift.noGrs {N : Nat} {t : Nat → AV} {o0 o1 : Option (List AV)} {a b c d x y u v : AV} : Shift N ⟨t, ⟨[o0, o1, some [u, v], some [.sl [] true, a, b, c, d, x, y]]⟩⟩ ⟨t, ⟨[o0, o1, none, some [.sl [] false, a, b, c, d, x, y]]⟩⟩ := by
  refine Shift.freeze (b := 2) (cs := [u, v]) rfl (fun i => .inr (Fz.refl _ _ _)) rfl (fun i l' h => ?_)
  match i, h with
  | 0, h => exact ⟨by decide, l', h, rfl, fun i x x' e1 e2 => .inl (by rw [e1] at e2; exact (Option.some.inj e2).symm)⟩
  | 1, h => exact ⟨by decide, l', h, rfl, fun i x x' e1 e2 => .inl (by rw [e1] at e2; exact (Option.some.inj e2).symm)⟩
  | 2, h => cases h
  | 3, h =>
    have h : some [.sl [] false, a, b, c, d, x, y] = some l' := h
    injection h with h
    subst h
    refine ⟨by decide, _, rfl, rfl, fun i u u' e1 e2 => ?_⟩
    match i, e1, e2 with
    | 0, e1, e2 => cases e1; cases e2; exact .inr (.inl rfl)
    | 1, e1, e2 => cases e1; cases e2; exact .inl rfl
    | 2, e1, e2 => cases e1; cases e2; exact .inl rfl
    | 3, e1, e2 => cases e1; cases e2; exact .inl rfl
    | 4, e1, e2 => cases e1; cases e2; exact .inl rfl
    | 5, e1, e2 => cases e1; cases e2; exact .inl rfl
    | 6, e1, e2 => cases e1; cases e2; exact .inl rfl
    | k + 7, e1, e2 => cases e1
  | k + 4, h => cases h
theorem gath_strT : ∀ (L : List ByteArray) (n : Nat), n ≤ L.length → gath 1 n (strsA L) = strsA (L.take n)
  | L, 0, _ => rfl
  | [], n + 1, h => by simp at h
  | x :: L, n + 1, h => by
    have := gath_strT L n (by simpa using h)
    show elemA 1 (strsA (x :: L)) :: gath 1 n (strsA L) = _
    rw [this]; rfl
theorem strsA_drop (L : List ByteArray) (k : Nat) : (strsA L).drop k = strsA (L.drop k) := by simp [mapA, List.map_drop]
/-! ### what is read -/
def stS : Nat → List ByteArray → List Gr → Option (List ByteArray × List Gr)
  | 0, W, G => some (W, G)
  | k + 1, [], G => some ([], G)
  | k + 1, w :: W, G => if bgB w woB = true then (rsO (w.extract 8 w.size)).bind fun g => stS k W (G ++ [⟨(g.1 : Int), (g.2 : Int)⟩]) else some (w :: W, G)
def ttW (s : ByteArray) : List ByteArray := splitL s 10
def tt0 (s : ByteArray) : ByteArray := (ttW s)[0]?.getD noB
def ttB (s : ByteArray) : ByteArray := (tt0 s).extract 10 (tt0 s).size
def ttK (s : ByteArray) : Bool := (!(decide ((ttW s).length < 3)) && ((ttW s)[(ttW s).length - 1]?.getD noB == noB)) && bgB (tt0 s) stWB
open Classical in
noncomputable def ttO (s : ByteArray) : Option StV := if ttK s = true ∧ rdOk (ttB s) = true then (stS 6 (ttW s).tail []).bind fun y => (ssO (lnB noB y.1.dropLast)).bind fun x => if stF s (y.2, x.1, x.2.1, x.2.2.1, x.2.2.2, rdP (ttB s), rdQ (ttB s)) then some (y.2, x.1, x.2.1, x.2.2.1, x.2.2.2, rdP (ttB s), rdQ (ttB s)) else none else none
def ttA : Option StV → AV
  | some (G, n, e, z, L, p, q) => .tup [.agg [.sl (grsA G) false, .int .i64 n, .int .u32 e, .int .i64 z, .sl (tmsA L) false, .int .i64 p, .int .i64 q], .int .i64 0]
  | none => .tup [.agg [.sl [] true, .int .i64 0, .int .u32 0, .int .i64 0, .sl [] true, .int .i64 0, .int .i64 0], .int .i64 5]
noncomputable def ttAA (s : ByteArray) : AV := if 20000 < s.size then bigA else ttA (ttO s)
@[simp] theorem ttAA_lt (s : ByteArray) (k : Nat) : (ttAA s).lt k = true := by
  unfold ttAA
  split
  · rfl
  · cases ttO s with
    | none => rfl
    | some x =>
      obtain ⟨G, n, e, z, L, p, q⟩ := x
      simp [ttA]
theorem no_wo : bgB noB woB = false := by decide
noncomputable def sp_readStS : List AV → Option (AV) := pf (ι := (ByteArray)) (α := AV) (fun s => s.size ≤ 1048576) (fun s => [.str s]) (fun s => ttAA s)
theorem sp_readStS_eq (s : ByteArray) (h : s.size ≤ 1048576) : sp_readStS [.str s] = some (ttAA s) := by
  unfold sp_readStS
  exact pf_eq (ι := (ByteArray)) (α := AV) s h (by rintro s' _ e; simp_all [Int.natCast_inj])
set_option maxHeartbeats 16000000 in
theorem q_spec_ReadStatement : QP PP 4 sp_readStS := by
  refine QP_pf (fun s h => ?_) fun s h => ?_
  · exact ⟨by first | rfl | simp, by first | rfl | simp⟩
  replace h : s.size ≤ 1048576 := h
  refine P_code (Quiet.q1 q_spec_ReadGraph (Quiet.q1 q_spec_l02Read (Quiet.q1 q_spec_l06Begins (Quiet.q1 q_spec_ReadSum (Quiet.e1 q_spec_l06Lines.toR (Quiet.e1 n_spec_l01Split.toE (Quiet.e1 m_spec_l06Statement.toE (Quiet.e1 m_spec_l06Stated.toE Quiet.nil)))))))) hmix k_spec_ReadStatement rfl ?_ ?_
  · first | rfl | simp
  show wpc 0 PP _ c_spec_ReadStatement (initSt [.str s] .nil) (endP r_spec_ReadStatement (ttAA s))
  by_cases hbig : 20000 < s.size
  · have hbi : (20000 : Int) < s.size := by omega
    have e1 : ttAA s = bigA := if_pos hbig
    rw [e1]
    simp -dsimp -implicitDefEqProofs [c_spec_ReadStatement, r_spec_ReadStatement, hbi, bigA]
  have hbi : ¬ (20000 : Int) < s.size := by omega
  have e1 : ttAA s = ttA (ttO s) := if_neg hbig
  rw [e1]
  have hsp := sp_split_eq s 10 ⟨h, by omega, by omega⟩
  rw [flat_strs] at hsp
  have hne : splitL s 10 ≠ [] := (splF_len s 10 _ _ _ _).2
  have hsz := splitL_size s 10
  have hzz := lnZ_splitL s 10
  have hlen : 0 < (splitL s 10).length := List.length_pos_iff.2 hne
  have hleni : (0 : Int) < (splitL s 10).length := by omega
  have hmost := (splF_len s 10 s.size 0 0 []).1
  change (splitL s 10).length ≤ _ at hmost
  simp only [List.length_nil] at hmost
  obtain ⟨R, hR⟩ : ∃ R, R = ttO s := ⟨_, rfl⟩
  rw [← hR]
  unfold ttO at hR
  have hK : ttK s = ((!(decide ((ttW s).length < 3)) && ((ttW s)[(ttW s).length - 1]?.getD noB == noB)) && bgB (tt0 s) stWB) := rfl
  have q0 : (splitL s 10)[0]? = some (tt0 s) := by unfold tt0 ttW; rw [List.getElem?_eq_getElem hlen]; rfl
  have z0 : (tt0 s).size ≤ 1048576 := by have := hsz _ (List.mem_of_getElem? q0); omega
  have hb0 : sp_l06Begins [.str (tt0 s), .str ⟨#[115, 116, 97, 116, 101, 109, 101, 110, 116, 32]⟩] = some (.bool (bgB (tt0 s) stWB)) := sp_l06Begins_eq (tt0 s) stWB ⟨z0, by decide⟩
  have hrd := sp_l02Read_eq (ttB s) (by unfold ttB; rw [ByteArray.size_extract]; omega)
  have dB : (tt0 s).extract 10 (tt0 s).size = ttB s := rfl
  have eW : ttW s = splitL s 10 := rfl
  rw [eW] at hR hK
  generalize hW : splitL s 10 = W at *
  have r3 : ∀ n, ltL n (strsA W) = true := fun n => by rw [← flat_strs]; simp
  have rr : ∀ f, renL f (strsA W) = strsA W := fun f => by rw [← flat_strs]; simp
  have g0 : (strsA W)[0]? = some (.str (tt0 s)) := by simp [q0]
  have rl : looseL (strsA W) = strsA W := by rw [← flat_strs]; exact flatA_loose W
  have hVl : (strsA W).length = W.length := by simp
  generalize hS : strsA W = V at *
  generalize tt0 s = w0 at *
  generalize ttB s = wB at *
  by_cases c1 : W.length < 3
  · have c1i : (W.length : Int) < 3 := by omega
    have hk : ttK s = false := by rw [hK, decide_eq_true c1]; rfl
    rw [hk] at hR
    have hR : R = none := by rw [hR]; simp
    subst hR
    simp -dsimp -implicitDefEqProofs [c_spec_ReadStatement, r_spec_ReadStatement, hbi, hsp, rr, c1, c1i, ttA, hsub]
  have c1i : ¬ (W.length : Int) < 3 := by omega
  obtain ⟨N, hN⟩ : ∃ N, W.length = N + 1 := ⟨W.length - 1, by omega⟩
  have hwN : IntKind.wrap .i64 ((W.length : Int) - 1) = (N : Int) := by rw [show (W.length : Int) - 1 = (N : Int) by omega]; exact wrapI64 (by omega) (by omega)
  have hNl : N < W.length := by omega
  have hNli : (N : Int) < W.length := by omega
  have qN : W[N]? = some W[N] := List.getElem?_eq_getElem hNl
  have gN : V[N]? = some (.str W[N]) := by rw [← hS]; simp [hNl]
  rw [show W.length - 1 = N by omega, qN, Option.getD_some] at hK
  cases c2 : (W[N] == noB) with
  | false =>
    have c2' : (W[N] != (⟨#[]⟩ : ByteArray)) = true := by
      show (!(W[N] == noB)) = true
      rw [c2]; rfl
    have hk : ttK s = false := by rw [hK, c2]; simp
    rw [hk] at hR
    have hR : R = none := by rw [hR]; simp
    subst hR
    simp -dsimp -implicitDefEqProofs [c_spec_ReadStatement, r_spec_ReadStatement, hbi, hsp, rr, c1, c1i, hwN, hNl, hNli, gN, c2', ttA, hsub]
  | true =>
  have c2' : (W[N] != (⟨#[]⟩ : ByteArray)) = false := by
    show (!(W[N] == noB)) = false
    rw [c2]; rfl
  have c2e : W[N] = noB := by rw [ba_eq, decide_eq_true_eq] at c2; exact c2
  cases c3 : bgB w0 stWB with
  | false =>
    rw [c3] at hb0
    have hk : ttK s = false := by rw [hK, c3]; simp
    rw [hk] at hR
    have hR : R = none := by rw [hR]; simp
    subst hR
    simp -dsimp -implicitDefEqProofs [c_spec_ReadStatement, r_spec_ReadStatement, hbi, hsp, rr, hlen, hleni, g0, c1, c1i, hwN, hNl, hNli, gN, c2', hb0, ttA, hsub]
  | true =>
  rw [c3] at hb0
  have hk : ttK s = true := by rw [hK, decide_eq_false c1, c2, c3]; rfl
  have s10 : 10 ≤ w0.size := by
    unfold bgB at c3
    simp only [Bool.and_eq_true, decide_eq_true_eq] at c3
    exact c3.1
  rw [hk] at hR
  generalize rdP wB = P at *
  generalize rdQ wB = Q at *
  generalize rdOk wB = c0 at *
  simp -dsimp -implicitDefEqProofs [c_spec_ReadStatement, r_spec_ReadStatement, hbi, hsp, rr, hlen, hleni, g0, c1, c1i, hwN, hNl, hNli, gN, c2', hb0, s10, dB, hrd]
  refine wpLoop_st (fun (x : Bool × List Gr) => ⟨tl [(0, .str s), (2, .ptr 0 0), (4, .ref 1 1 0 W.length .full), (5, .int .i64 W.length), (7, .bool x.1), (8, .ptr 3 0), (9, .int .i64 ((x.2.length : Int) + 1))], ⟨some [.sl [] true, .int .i64 0, .int .u32 0, .int .i64 0, .sl [] true, .int .i64 0, .int .i64 0] :: some V :: some [.int .i64 P, .int .i64 Q] :: some [lvG 4 x.2, .int .i64 0, .int .u32 0, .int .i64 0, .sl [] true, .int .i64 P, .int .i64 Q] :: obG x.2⟩⟩) (fun x => x.2.length ≤ 6 ∧ grsIn x.2 ∧ (x.1 = true → x.2.length ≤ N - 1 ∧ c0 = true ∧ stS (6 - x.2.length) (W.drop (x.2.length + 1)) x.2 = stS 6 W.tail []) ∧ (x.1 = false → R = none)) (fun x => if x.1 = true then 7 - x.2.length else 0) (c0, []) ⟨by simp, (fun x hx => (by cases hx)), (fun hc => ⟨Nat.zero_le _, hc, by simp⟩), (fun hc => by simp only at hc; rw [hR, hc]; simp)⟩ (Sub.keep (by simp [obG_nil]) (by simp [hsub, obG_nil, lvG_nil, r3, rr]) (by simp)) ?_
  rintro ⟨c, G⟩ ⟨hGl, hGi, hgo, hbad⟩
  simp only at hGl hGi hgo hbad
  cases c with
  | false =>
    have hR := hbad rfl
    subst hR
    by_cases hG : G = []
    · subst hG
      simp -dsimp -implicitDefEqProofs [obG_nil, lvG_nil, ttA]
    · simp -dsimp -implicitDefEqProofs [obG_cons hG, lvG_cons hG, ttA]
  | true =>
  obtain ⟨hGN, rfl, hg⟩ := hgo rfl
  have hR : R = (stS 6 W.tail []).bind fun y => (ssO (lnB noB y.1.dropLast)).bind fun x => (open Classical in if stF s (y.2, x.1, x.2.1, x.2.2.1, x.2.2.2, P, Q) then some (y.2, x.1, x.2.1, x.2.2.1, x.2.2.2, P, Q) else none) := by rw [hR, if_pos ⟨rfl, rfl⟩]
  rw [← hg] at hR
  have hx1 : G.length + 1 < W.length := by omega
  have hx1i : (G.length : Int) + 1 < W.length := by omega
  have hi0 : (0 : Int) ≤ (G.length : Int) + 1 := by omega
  have gq : V[G.length + 1]? = some (.str W[G.length + 1]) := by rw [← hS]; simp [hx1]
  have hwsz := hsz _ (List.getElem_mem hx1)
  have hdc := List.drop_eq_getElem_cons hx1
  generalize hD : (W.drop (G.length + 1)) = D at *
  have hbw : sp_l06Begins [.str W[G.length + 1], .str ⟨#[119, 105, 116, 104, 111, 117, 116, 32]⟩] = some (.bool (bgB W[G.length + 1] woB)) := sp_l06Begins_eq W[G.length + 1] woB ⟨by omega, by decide⟩
  have hwi : IntKind.wrap .i64 ((G.length : Int) + 1 + 1) = (G.length : Int) + 1 + 1 := wrapI64 (by omega) (by omega)
  have hzD : lnZ D.dropLast ≤ 1048577 := by rw [← hD]; have := lnZ_part W (G.length + 1); omega
  have hlD : D.dropLast.length ≤ maxLen := by rw [← hD]; simp only [maxLen]; simp; omega
  have hln := sp_l06Lines_eq D.dropLast ⟨hzD, hlD⟩
  have hlz : (lnB noB D.dropLast).size ≤ 1048577 := by rw [lnB_size]; simp only [show noB.size = 0 from rfl]; omega
  have hDz : lnZ D.dropLast ≤ 1048576 := by
    rw [← hD]; have := lnZ_part W (G.length + 1); omega
  have hsum := sp_readSmS_eq (lnB noB D.dropLast) (by rw [lnB_size]; simp only [show noB.size = 0 from rfl]; omega)
  have hcut : gath 1 (N - (G.length + 1)) (V.drop (G.length + 1)) = strsA D.dropLast := by
    rw [← hS, ← hD, strsA_drop, gath_strT _ _ (by rw [List.length_drop]; omega), List.dropLast_eq_take, List.length_drop, hN]
    congr 2; omega
  have c5 : G.length + 1 ≤ N := by omega
  have c5i : (G.length : Int) + 1 ≤ (N : Int) := by omega
  have c6i : (N : Int) ≤ (W.length : Int) := by omega
  have c6 : N ≤ W.length := by omega
  have hv := fun (n m : Nat) (z : Int) (L : List Tm) (hm : m ≤ 4294967295) (hu : u32L L) (hl : L.length ≤ maxLen) => sp_l06Statement_eq G n m z L P Q ⟨⟨by simp only [maxLen]; omega, hGi⟩, ⟨by omega, by omega⟩, hl, hu⟩
  have hx := fun (n m : Nat) (z : Int) (L : List Tm) (hm : m ≤ 4294967295) (hu : u32L L) (hl : L.length ≤ maxLen) (hb : stB G n m z L P Q = true) => sp_l06Stated_eq G n m z L P Q (st_in hb ⟨⟨by simp only [maxLen]; omega, hGi⟩, ⟨by omega, by omega⟩, hl, hu⟩)
  by_cases hG : G = []
  · subst hG
    have l1 : 1 * 17 ≤ mostBytes := by decide
    have hx1 : 1 < W.length := hx1
    have hx1i : (1 : Int) < W.length := by omega
    have hi0 : (0 : Int) ≤ 1 := by decide
    have gq : V[1]? = some (.str W[1]) := gq
    have hbw : sp_l06Begins [.str W[1], .str ⟨#[119, 105, 116, 104, 111, 117, 116, 32]⟩] = some (.bool (bgB W[1] woB)) := hbw
    have hdc : D = W[1] :: W.drop (1 + 1) := hdc
    have hcut : gath 1 (N - 1) V.tail = strsA D.dropLast := by rw [← hcut]; rw [← List.drop_one]; rfl
    have c5 : 1 ≤ N := c5
    have c5i : (1 : Int) ≤ (N : Int) := by omega
    have hD : W.drop 1 = D := hD
    have hg : stS 6 D [] = stS 6 W.tail [] := hg
    have hR : R = (stS 6 D []).bind fun y => (ssO (lnB noB y.1.dropLast)).bind fun x => (open Classical in if stF s (y.2, x.1, x.2.1, x.2.2.1, x.2.2.2, P, Q) then some (y.2, x.1, x.2.1, x.2.2.1, x.2.2.2, P, Q) else none) := hR
    have hwsz : (W[1]).size ≤ s.size := hwsz
    have hwi : IntKind.wrap .i64 (1 + 1) = 2 := by decide
    have hwi2 : IntKind.wrap .i64 2 = 2 := by decide
    have hgn : grsA [] = [] := rfl
    rw [hdc, stS] at hR
    cases hp : bgB (W[1]) woB with
    | false =>
      rw [hp] at hbw
      rw [if_neg (by rw [hp]; decide), Option.bind_some, ← hdc] at hR
      simp -dsimp -implicitDefEqProofs [obG_nil, lvG_nil, hx1, hx1i, hi0, gq, hbw]
      refine ⟨_, Shift.noGrs, ?_⟩
      cases hO : ssO (lnB noB D.dropLast) with
      | none =>
        rw [hO] at hsum hR
        have hR : R = none := hR
        subst hR
        simp -dsimp -implicitDefEqProofs [hi0, hcut, c5, c5i, c6, c6i, hNl, hwN, hln, hVl, rl, r3, hgn, hsum, ssA, ttA, hsub]
      | some x =>
        obtain ⟨n, m, z, L, rfl, hm, hu, hF⟩ := ssO_in hO
        have hl : L.length ≤ maxLen := by have := (sumB_in hF.1 (by omega) hu).2.2.1; simp only [maxLen]; omega
        rw [hO] at hsum hR
        have hR : R = (open Classical in if stF s (([] : List Gr), (n : Int), (m : Int), z, L, P, Q) then some (([] : List Gr), (n : Int), (m : Int), z, L, P, Q) else none) := hR
        replace hv := hv n m z L hm hu hl
        replace hx := hx n m z L hm hu hl
        have hv : sp_l06Statement [.sl [] false, .int .i64 n, .int .u32 m, .int .i64 z, .sl (tmsA L) false, .int .i64 P, .int .i64 Q] [] = some (.bool (stB [] n m z L P Q), [.sl [] false, .int .i64 n, .int .u32 m, .int .i64 z, .sl (tmsA L) false, .int .i64 P, .int .i64 Q]) := hv
        cases hb : stB [] n m z L P Q with
        | false =>
          rw [hb] at hv
          have hR2 : R = none := by rw [hR, if_neg]; intro hF; rw [stF, hb] at hF; exact absurd hF.1 (by decide)
          subst hR2
          simp -dsimp -implicitDefEqProofs [hi0, hcut, c5, c5i, c6, c6i, hNl, hwN, hln, hVl, rl, r3, hgn, hsum, ssA, hv, ttA, hsub]
        | true =>
          rw [hb] at hv
          have hx : sp_l06Stated [.sl [] false, .int .i64 n, .int .u32 m, .int .i64 z, .sl (tmsA L) false, .int .i64 P, .int .i64 Q] [] = some (.str (stX [] n m z L P Q), [.sl [] false, .int .i64 n, .int .u32 m, .int .i64 z, .sl (tmsA L) false, .int .i64 P, .int .i64 Q]) := hx hb
          cases hq : (stX [] n m z L P Q == s) with
          | false =>
            have hq' : (stX [] n m z L P Q != s) = true := by unfold bne; rw [hq]; rfl
            have hR2 : R = none := by rw [hR, if_neg]; intro hF; rw [stF, hq] at hF; exact absurd hF.2 (by decide)
            subst hR2
            simp -dsimp -implicitDefEqProofs [hi0, hcut, c5, c5i, c6, c6i, hNl, hwN, hln, hVl, rl, r3, hgn, hsum, ssA, hv, hx, hq, hq', ttA, hsub]
          | true =>
            have hq' : (stX [] n m z L P Q != s) = false := by unfold bne; rw [hq]; rfl
            have hR2 : R = some ([], (n : Int), (m : Int), z, L, P, Q) := by rw [hR, if_pos]; exact ⟨hb, hq⟩
            subst hR2
            simp -dsimp -implicitDefEqProofs [hi0, hcut, c5, c5i, c6, c6i, hNl, hwN, hln, hVl, rl, r3, hgn, hsum, ssA, hv, hx, hq, hq', ttA, hsub]
    | true =>
      rw [hp] at hbw
      rw [if_pos hp] at hR
      have hnN : 1 ≠ N := by intro e; rw [show W[1] = W[N] by congr 1, c2e, no_wo] at hp; cases hp
      have s8 : 8 ≤ (W[1]).size := by
        unfold bgB at hp
        simp only [Bool.and_eq_true, decide_eq_true_eq] at hp
        exact hp.1
      have hgr := sp_readGrS_eq ((W[1]).extract 8 (W[1]).size) (by rw [ByteArray.size_extract]; omega)
      cases hl : rsO ((W[1]).extract 8 (W[1]).size) with
      | none =>
        rw [hl] at hgr hR
        have hR : R = none := hR
        have e5 : [(⟨0, 0⟩ : Gr)] ≠ [] := by simp
        simp -dsimp -implicitDefEqProofs [obG_nil, lvG_nil, hx1, hx1i, hi0, gq, hbw, s8, hgr, rgA, hwi, l1]
        refine .mk (false, [(⟨0, 0⟩ : Gr)]) ⟨by simp; try omega, ?_, (fun h => by cases h), (fun _ => hR)⟩ (by simp; try omega) (Sub.mk' (fun b => if b = 4 then 6 else b) (by simp [obG_cons e5]) (by intro b hb; simp [obG_cons e5] at hb <;> omega) (by first | rfl | (rw [obG_cons e5]; rfl)) (by simp [hsub, obG_cons e5, lvG_cons e5, r3, rr, flatA_cons]) (by simp [hwi, hwi2]))
        · intro x hx9
          obtain rfl := List.mem_singleton.1 hx9
          simp only; omega
      | some g2 =>
        obtain ⟨n2, m2⟩ := g2
        have hnm2 : n2 ≤ 5 ∧ m2 < 1024 := rgO_lt (by rw [graph_same]; exact hl)
        rw [hl] at hgr
        have e5 : [(⟨(n2 : Int), (m2 : Int)⟩ : Gr)] ≠ [] := by simp
        simp -dsimp -implicitDefEqProofs [obG_nil, lvG_nil, hx1, hx1i, hi0, gq, hbw, s8, hgr, rgA, hwi, l1]
        refine .mk (true, [(⟨(n2 : Int), (m2 : Int)⟩ : Gr)]) ⟨by simp; try omega, ?_, (fun _ => ⟨by simp; omega, ?_⟩), (fun h => by cases h)⟩ (by simp; try omega) (Sub.mk' (fun b => if b = 4 then 6 else b) (by simp [obG_cons e5]) (by intro b hb; simp [obG_cons e5] at hb <;> omega) (by first | rfl | (rw [obG_cons e5]; rfl)) (by simp [hsub, obG_cons e5, lvG_cons e5, r3, rr, flatA_cons]) (by simp [hwi, hwi2]))
        · intro x hx9
          obtain rfl := List.mem_singleton.1 hx9
          simp only; omega
        · rw [← hg, hdc, stS, if_pos hp, hl, Option.bind_some]
          simp only [List.length_append, List.length_cons, List.length_nil]
          rfl
  · have l2 : ¬ ((G.length + 1) * 2 ≤ G.length * 2) := by omega
    have l1 : (G.length + 1) * 17 ≤ mostBytes := by simp only [mostBytes]; omega
    have l3 : (flatA (grsA G)).take (G.length * 2) = flatA (grsA G) := List.take_of_length_le (by simp)
    by_cases h6 : G.length + 1 ≤ 6
    · have h6i : (G.length : Int) + 1 ≤ 6 := by omega
      obtain ⟨k, hk⟩ : ∃ k, 6 - G.length = k + 1 := ⟨5 - G.length, by omega⟩
      rw [hk, hdc, stS] at hR
      cases hp : bgB (W[G.length + 1]) woB with
      | false =>
        rw [hp] at hbw
        rw [if_neg (by rw [hp]; decide), Option.bind_some, ← hdc] at hR
        simp -dsimp -implicitDefEqProofs [obG_cons hG, lvG_cons hG, h6, h6i, hx1, hx1i, hi0, gq, hbw]
        refine ⟨_, Shift.grs, ?_⟩
        cases hO : ssO (lnB noB D.dropLast) with
        | none =>
          rw [hO] at hsum hR
          have hR : R = none := hR
          subst hR
          simp -dsimp -implicitDefEqProofs [hi0, hcut, c5, c5i, c6, c6i, hNl, hwN, hln, hVl, rl, r3, hsum, ssA, ttA, hsub]
        | some x =>
          obtain ⟨n, m, z, L, rfl, hm, hu, hF⟩ := ssO_in hO
          have hl : L.length ≤ maxLen := by have := (sumB_in hF.1 (by omega) hu).2.2.1; simp only [maxLen]; omega
          rw [hO] at hsum hR
          have hR : R = (open Classical in if stF s (G, (n : Int), (m : Int), z, L, P, Q) then some (G, (n : Int), (m : Int), z, L, P, Q) else none) := hR
          replace hv := hv n m z L hm hu hl
          replace hx := hx n m z L hm hu hl
          have hv : sp_l06Statement [.sl (grsA G) false, .int .i64 n, .int .u32 m, .int .i64 z, .sl (tmsA L) false, .int .i64 P, .int .i64 Q] [] = some (.bool (stB G n m z L P Q), [.sl (grsA G) false, .int .i64 n, .int .u32 m, .int .i64 z, .sl (tmsA L) false, .int .i64 P, .int .i64 Q]) := hv
          cases hb : stB G n m z L P Q with
          | false =>
            rw [hb] at hv
            have hR2 : R = none := by rw [hR, if_neg]; intro hF; rw [stF, hb] at hF; exact absurd hF.1 (by decide)
            subst hR2
            simp -dsimp -implicitDefEqProofs [hi0, hcut, c5, c5i, c6, c6i, hNl, hwN, hln, hVl, rl, r3, hsum, ssA, hv, ttA, hsub]
          | true =>
            rw [hb] at hv
            have hx : sp_l06Stated [.sl (grsA G) false, .int .i64 n, .int .u32 m, .int .i64 z, .sl (tmsA L) false, .int .i64 P, .int .i64 Q] [] = some (.str (stX G n m z L P Q), [.sl (grsA G) false, .int .i64 n, .int .u32 m, .int .i64 z, .sl (tmsA L) false, .int .i64 P, .int .i64 Q]) := hx hb
            cases hq : (stX G n m z L P Q == s) with
            | false =>
              have hq' : (stX G n m z L P Q != s) = true := by unfold bne; rw [hq]; rfl
              have hR2 : R = none := by rw [hR, if_neg]; intro hF; rw [stF, hq] at hF; exact absurd hF.2 (by decide)
              subst hR2
              simp -dsimp -implicitDefEqProofs [hi0, hcut, c5, c5i, c6, c6i, hNl, hwN, hln, hVl, rl, r3, hsum, ssA, hv, hx, hq, hq', ttA, hsub]
            | true =>
              have hq' : (stX G n m z L P Q != s) = false := by unfold bne; rw [hq]; rfl
              have hR2 : R = some (G, (n : Int), (m : Int), z, L, P, Q) := by rw [hR, if_pos]; exact ⟨hb, hq⟩
              subst hR2
              simp -dsimp -implicitDefEqProofs [hi0, hcut, c5, c5i, c6, c6i, hNl, hwN, hln, hVl, rl, r3, hsum, ssA, hv, hx, hq, hq', ttA, hsub]
      | true =>
        rw [hp] at hbw
        rw [if_pos hp] at hR
        have hnN : G.length + 1 ≠ N := by intro e; rw [show W[G.length + 1] = W[N] by congr 1, c2e, no_wo] at hp; cases hp
        have s8 : 8 ≤ (W[G.length + 1]).size := by
          unfold bgB at hp
          simp only [Bool.and_eq_true, decide_eq_true_eq] at hp
          exact hp.1
        have hgr := sp_readGrS_eq ((W[G.length + 1]).extract 8 (W[G.length + 1]).size) (by rw [ByteArray.size_extract]; omega)
        cases hl : rsO ((W[G.length + 1]).extract 8 (W[G.length + 1]).size) with
        | none =>
          rw [hl] at hgr hR
          have hR : R = none := hR
          have e5 : G ++ [(⟨0, 0⟩ : Gr)] ≠ [] := by simp
          have e2 := grE_snoc G 0 0
          simp -dsimp -implicitDefEqProofs [obG_cons hG, lvG_cons hG, h6, h6i, hx1, hx1i, hi0, gq, hbw, s8, hgr, rgA, hwi, l1, e2, l2, l3]
          refine .mk (false, G ++ [(⟨0, 0⟩ : Gr)]) ⟨by simp; try omega, ?_, (fun h => by cases h), (fun _ => hR)⟩ (by simp; try omega) (Sub.mk' (fun b => if b = 4 then 7 else b) (by simp [obG_cons e5]) (by intro b hb; simp [obG_cons e5] at hb <;> omega) (by first | rfl | (rw [obG_cons e5]; rfl)) (by simp [hsub, obG_cons e5, lvG_cons e5, r3, rr]) (by simp [hwi]))
          · intro x hx9
            rcases List.mem_append.1 hx9 with hx9 | hx9
            · exact hGi x hx9
            · obtain rfl := List.mem_singleton.1 hx9
              simp only; omega
        | some g2 =>
          obtain ⟨n2, m2⟩ := g2
          have hnm2 : n2 ≤ 5 ∧ m2 < 1024 := rgO_lt (by rw [graph_same]; exact hl)
          rw [hl] at hgr
          have e5 : G ++ [(⟨(n2 : Int), (m2 : Int)⟩ : Gr)] ≠ [] := by simp
          have e2 := grE_snoc G n2 m2
          simp -dsimp -implicitDefEqProofs [obG_cons hG, lvG_cons hG, h6, h6i, hx1, hx1i, hi0, gq, hbw, s8, hgr, rgA, hwi, l1, e2, l2, l3]
          refine .mk (true, G ++ [(⟨(n2 : Int), (m2 : Int)⟩ : Gr)]) ⟨by simp; try omega, ?_, (fun _ => ⟨by simp; omega, ?_⟩), (fun h => by cases h)⟩ (by simp; try omega) (Sub.mk' (fun b => if b = 4 then 7 else b) (by simp [obG_cons e5]) (by intro b hb; simp [obG_cons e5] at hb <;> omega) (by first | rfl | (rw [obG_cons e5]; rfl)) (by simp [hsub, obG_cons e5, lvG_cons e5, r3, rr]) (by simp [hwi]))
          · intro x hx9
            rcases List.mem_append.1 hx9 with hx9 | hx9
            · exact hGi x hx9
            · obtain rfl := List.mem_singleton.1 hx9
              simp only; omega
          · rw [← hg, hk, hdc, stS, if_pos hp, hl, Option.bind_some]
            simp only [List.length_append, List.length_cons, List.length_nil]
            congr 1; simp at hk ⊢; omega
    · have h6i : ¬ (G.length : Int) + 1 ≤ 6 := by omega
      rw [show 6 - G.length = 0 by omega, stS, Option.bind_some] at hR
      simp -dsimp -implicitDefEqProofs [obG_cons hG, lvG_cons hG, h6, h6i, hx1, hx1i, hi0, gq, hbw]
      refine ⟨_, Shift.grs, ?_⟩
      cases hO : ssO (lnB noB D.dropLast) with
      | none =>
        rw [hO] at hsum hR
        have hR : R = none := hR
        subst hR
        simp -dsimp -implicitDefEqProofs [hi0, hcut, c5, c5i, c6, c6i, hNl, hwN, hln, hVl, rl, r3, hsum, ssA, ttA, hsub]
      | some x =>
        obtain ⟨n, m, z, L, rfl, hm, hu, hF⟩ := ssO_in hO
        have hl : L.length ≤ maxLen := by have := (sumB_in hF.1 (by omega) hu).2.2.1; simp only [maxLen]; omega
        rw [hO] at hsum hR
        have hR : R = (open Classical in if stF s (G, (n : Int), (m : Int), z, L, P, Q) then some (G, (n : Int), (m : Int), z, L, P, Q) else none) := hR
        replace hv := hv n m z L hm hu hl
        replace hx := hx n m z L hm hu hl
        have hv : sp_l06Statement [.sl (grsA G) false, .int .i64 n, .int .u32 m, .int .i64 z, .sl (tmsA L) false, .int .i64 P, .int .i64 Q] [] = some (.bool (stB G n m z L P Q), [.sl (grsA G) false, .int .i64 n, .int .u32 m, .int .i64 z, .sl (tmsA L) false, .int .i64 P, .int .i64 Q]) := hv
        cases hb : stB G n m z L P Q with
        | false =>
          rw [hb] at hv
          have hR2 : R = none := by rw [hR, if_neg]; intro hF; rw [stF, hb] at hF; exact absurd hF.1 (by decide)
          subst hR2
          simp -dsimp -implicitDefEqProofs [hi0, hcut, c5, c5i, c6, c6i, hNl, hwN, hln, hVl, rl, r3, hsum, ssA, hv, ttA, hsub]
        | true =>
          rw [hb] at hv
          have hx : sp_l06Stated [.sl (grsA G) false, .int .i64 n, .int .u32 m, .int .i64 z, .sl (tmsA L) false, .int .i64 P, .int .i64 Q] [] = some (.str (stX G n m z L P Q), [.sl (grsA G) false, .int .i64 n, .int .u32 m, .int .i64 z, .sl (tmsA L) false, .int .i64 P, .int .i64 Q]) := hx hb
          cases hq : (stX G n m z L P Q == s) with
          | false =>
            have hq' : (stX G n m z L P Q != s) = true := by unfold bne; rw [hq]; rfl
            have hR2 : R = none := by rw [hR, if_neg]; intro hF; rw [stF, hq] at hF; exact absurd hF.2 (by decide)
            subst hR2
            simp -dsimp -implicitDefEqProofs [hi0, hcut, c5, c5i, c6, c6i, hNl, hwN, hln, hVl, rl, r3, hsum, ssA, hv, hx, hq, hq', ttA, hsub]
          | true =>
            have hq' : (stX G n m z L P Q != s) = false := by unfold bne; rw [hq]; rfl
            have hR2 : R = some (G, (n : Int), (m : Int), z, L, P, Q) := by rw [hR, if_pos]; exact ⟨hb, hq⟩
            subst hR2
            simp -dsimp -implicitDefEqProofs [hi0, hcut, c5, c5i, c6, c6i, hNl, hwN, hln, hVl, rl, r3, hsum, ssA, hv, hx, hq, hq', ttA, hsub]
end Go.Proofs.YtgiakpeneckgfaaGreatDoorAi
end

section
/- Plain law: both readings of statements agree. -/
namespace Go.Proofs.YtgiakpeneckgfaaGreatDoorAi
open Go Go.RowKit
set_option linter.unusedVariables false
set_option linter.unusedSimpArgs false
set_option maxRecDepth 20000

theorem pfB_app (p r : ByteArray) : pfB (p ++ r) p = true := by
  unfold pfB Go.Lib.hasPrefix
  rw [ByteArray.data_append, Array.toList_append]
  exact List.isPrefixOf_iff_prefix.2 (List.prefix_append _ _)
theorem cpA_app (p r : ByteArray) : cpA (p ++ r) p = r := by
  have hp : Go.Lib.hasPrefix (p ++ r).data.toList p.data.toList = true := pfB_app p r
  unfold cpA Go.Lib.trimPrefix
  rw [if_pos hp, ByteArray.data_append, Array.toList_append, List.drop_left]
theorem bgB_app (p r : ByteArray) : bgB (p ++ r) p = true := by
  unfold bgB
  rw [ext_left, beq_ba, ByteArray.size_append, decide_eq_true (by omega)]; rfl
theorem cut_line {A : ByteArray} (h : lacks A 10) (R : ByteArray) : cutA (A ++ lineB ++ R) lineB = A ∧ cutB (A ++ lineB ++ R) lineB = R := by
  have el : (A ++ lineB ++ R).data.toList = A.data.toList ++ 10 :: R.data.toList := by
    rw [ByteArray.data_append, ByteArray.data_append, Array.toList_append, Array.toList_append]
    simp [lineB]
  have hc : Go.Lib.cut (A ++ lineB ++ R).data.toList lineB.data.toList = (A.data.toList, R.data.toList, true) := by
    unfold Go.Lib.cut
    have hi : Go.Lib.index (A ++ lineB ++ R).data.toList lineB.data.toList = (A.data.toList).length := by
      rw [el]; exact index_atC 10 _ _ h
    rw [hi, if_pos (by omega), el]
    have hs : lineB.data.toList.length = 1 := rfl
    rw [hs, Int.toNat_natCast]
    generalize A.data.toList = la
    generalize R.data.toList = lb
    simp
  unfold cutA cutB
  rw [hc]
  exact ⟨ba_back A, ba_back R⟩
/-! ### the lines of the graphs -/
def grN (x : Gr) : ByteArray := woB ++ grT x.e x.n.toNat
theorem grN_lacks (x : Gr) : lacks (grN x) 10 := geB_lacks (m := 32) (geB_app (by unfold geB; decide) (geB_gr _ _)) (by decide)
def glue (S : ByteArray) : List Gr → ByteArray
  | [] => S
  | x :: M => grN x ++ lineB ++ glue S M
theorem grW_glue (S : ByteArray) : ∀ (M : List Gr) (w : ByteArray), grW w M ++ S = w ++ glue S M
  | [], w => rfl
  | x :: M, w => by
    show grW (w ++ grL x) M ++ S = w ++ (grN x ++ lineB ++ glue S M)
    rw [grW_glue S M]; unfold grL grN; simp only [ByteArray.append_assoc]
theorem glue_lines (H : ByteArray) (K : List ByteArray) : ∀ (M : List Gr) (A : ByteArray), A ++ lineB ++ glue (tlL H K ++ lineB) M = tlL A (M.map grN ++ H :: K) ++ lineB
  | [], A => by
    show A ++ lineB ++ (tlL H K ++ lineB) = A ++ lineB ++ tlL H K ++ lineB
    simp only [ByteArray.append_assoc]
  | x :: M, A => by
    show A ++ lineB ++ (grN x ++ lineB ++ glue (tlL H K ++ lineB) M) = A ++ lineB ++ tlL (grN x) (M.map grN ++ H :: K) ++ lineB
    rw [glue_lines H K M (grN x)]
    simp only [ByteArray.append_assoc]
theorem lnB_lines : ∀ (K : List ByteArray) (A w : ByteArray), lnB w (A :: K) = w ++ (tlL A K ++ lineB)
  | [], A, w => rfl
  | x :: K, A, w => by
    show lnB (w ++ (A ++ lineB)) (x :: K) = w ++ (A ++ lineB ++ tlL x K ++ lineB)
    rw [lnB_lines K]
    simp only [ByteArray.append_assoc]
theorem gr_read {x : Gr} (h : graphOk x.n x.e = true ∧ 0 ≤ x.e ∧ x.e ≤ 4294967295) : rgO (grT x.e x.n.toNat) = some (x.n.toNat, x.e.toNat) := by
  have hn := graphOk_in h.1
  have e1 : (x.n.toNat : Int) = x.n := by omega
  have e2 : (x.e.toNat : Int) = x.e := by omega
  have := (reads_graph (n := x.n.toNat) (m := x.e.toNat) (by rw [e1, e2]; exact h.1)).1
  rw [e2] at this
  exact this
theorem gr_eq {x : Gr} (h : graphOk x.n x.e = true ∧ 0 ≤ x.e ∧ x.e ≤ 4294967295) : (⟨(x.n.toNat : Int), (x.e.toNat : Int)⟩ : Gr) = x := by
  have hn := graphOk_in h.1
  have e1 : (x.n.toNat : Int) = x.n := by omega
  have e2 : (x.e.toNat : Int) = x.e := by omega
  rw [e1, e2]
theorem stI_all {S : ByteArray} (hS : pfB S woB = false) : ∀ (M : List Gr) (k : Nat) (acc : List Gr), (∀ x ∈ M, graphOk x.n x.e = true ∧ 0 ≤ x.e ∧ x.e ≤ 4294967295) → stI (M.length + k) (glue S M) acc = (S, true, acc ++ M)
  | [], k, acc, _ => by
    rw [List.append_nil, List.length_nil, Nat.zero_add]
    cases k with
    | zero => rfl
    | succ k =>
      show stI (k + 1) S acc = _
      rw [stI, if_neg (by rw [hS]; decide)]
  | x :: M, k, acc, h => by
    have hx := h x (List.mem_cons_self ..)
    obtain ⟨c1, c2⟩ := cut_line (grN_lacks x) (glue S M)
    have eg : glue S (x :: M) = grN x ++ lineB ++ glue S M := rfl
    have hp : pfB (grN x ++ lineB ++ glue S M) woB = true := by
      have : grN x ++ lineB ++ glue S M = woB ++ (grT x.e x.n.toNat ++ lineB ++ glue S M) := by unfold grN; simp only [ByteArray.append_assoc]
      rw [this]; exact pfB_app _ _
    have ec : cpA (grN x) woB = grT x.e x.n.toNat := cpA_app _ _
    rw [show (x :: M).length + k = (M.length + k) + 1 by rw [List.length_cons]; omega, eg, stI, if_pos hp, c1, c2, ec, gr_read hx]
    show stI (M.length + k) (glue S M) (acc ++ [⟨(x.n.toNat : Int), (x.e.toNat : Int)⟩]) = _
    rw [gr_eq hx, stI_all hS M k _ fun y hy => h y (List.mem_cons_of_mem _ hy)]
    simp
theorem stS_all {w : ByteArray} {V : List ByteArray} (hS : bgB w woB = false) : ∀ (M : List Gr) (k : Nat) (acc : List Gr), (∀ x ∈ M, graphOk x.n x.e = true ∧ 0 ≤ x.e ∧ x.e ≤ 4294967295) → stS (M.length + k) (M.map grN ++ w :: V) acc = some (w :: V, acc ++ M)
  | [], k, acc, _ => by
    rw [List.append_nil, List.map_nil, List.nil_append, List.length_nil, Nat.zero_add]
    cases k with
    | zero => rfl
    | succ k => rw [stS, if_neg (by rw [hS]; decide)]
  | x :: M, k, acc, h => by
    have hx := h x (List.mem_cons_self ..)
    have hp : bgB (grN x) woB = true := bgB_app _ _
    have ec : (grN x).extract 8 (grN x).size = grT x.e x.n.toNat := ext_right woB (grT x.e x.n.toNat)
    have hg := gr_read hx
    rw [graph_same] at hg
    rw [List.map_cons, List.cons_append, show (x :: M).length + k = (M.length + k) + 1 by rw [List.length_cons]; omega, stS, if_pos hp, ec, hg, Option.bind_some, gr_eq hx, stS_all hS M k _ fun y hy => h y (List.mem_cons_of_mem _ hy)]
    simp
theorem pfB_sum (R : ByteArray) : pfB (sumWB ++ R) woB = false := by
  unfold pfB Go.Lib.hasPrefix
  rw [ByteArray.data_append, Array.toList_append]
  rfl
theorem bgB_sum (R : ByteArray) : bgB (sumWB ++ R) woB = false := by
  unfold bgB
  rw [Bool.and_eq_false_iff]
  right
  rw [ba_eq, decide_eq_false_iff_not]
  intro h
  have h1 := congrArg (fun a : ByteArray => a.data.toList) h
  simp only [ByteArray.data_extract, Array.toList_extract, ByteArray.data_append, Array.toList_append, List.extract] at h1
  revert h1
  generalize R.data.toList = l
  intro h1
  simp [sumWB, woB] at h1
theorem sumX_lines (n m z : Int) (L : List Tm) : sumX n m z L = tlL (sumWB ++ decB z ++ sepB ++ grT m n.toNat) (L.map tmL) ++ lineB := by
  unfold sumX
  rw [tmsW_lines]
theorem sumX_head (n m z : Int) (L : List Tm) : ∃ R, sumX n m z L = sumWB ++ R := by
  rw [sumX_lines]
  cases L with
  | nil => exact ⟨_, by simp only [List.map_nil, tlL, ByteArray.append_assoc]; rfl⟩
  | cons x L => exact ⟨_, by simp only [List.map_cons, tlL, ByteArray.append_assoc]; rfl⟩
/-! ### a text of a statement is read by both -/
theorem reads_st {G : List Gr} {n m : Nat} {z : Int} {L : List Tm} {p q : Int} (hb : stB G n m z L p q = true) (hG : G.length ≤ maxLen ∧ grsIn G) (hm : m ≤ 4294967295) (hl : L.length ≤ maxLen) (hu : u32L L) :
    isS (stX G n m z L p q) = some (G, (n : Int), (m : Int), z, L, p, q) ∧ ttO (stX G n m z L p q) = some (G, (n : Int), (m : Int), z, L, p, q) := by
  obtain ⟨⟨hok, h6⟩, hsi, hpq⟩ := st_in hb ⟨hG, ⟨by omega, by omega⟩, hl, hu⟩
  have hsum : sumB n m z L = true := by
    unfold stB at hb
    simp only [Bool.and_eq_true] at hb
    exact hb.1.1.2
  obtain ⟨rI, rS⟩ := reads_sum hsum hm hu
  have hF : stF (stX G n m z L p q) (G, (n : Int), (m : Int), z, L, p, q) := ⟨hb, beq_ba _⟩
  have hA : lacks (stWB ++ frT p q) 10 := geB_lacks (m := 32) (geB_app (by unfold geB; decide) (geB_le (geB_fr _ _) (by omega))) (by decide)
  have hs : stX G n m z L p q = (stWB ++ frT p q) ++ lineB ++ glue (sumX n m z L) G := by
    unfold stX; exact grW_glue _ G _
  have hsl := sumX_lines n m z L
  rw [Int.toNat_natCast] at hsl
  have hH : lacks (sumWB ++ decB z ++ sepB ++ grT m n) 10 := by
    refine geB_lacks (m := 32) (geB_app (geB_app (geB_app ?_ (geB_le (geB_dec _) (by omega))) geB_sep) (geB_gr _ _)) (by decide)
    unfold geB; decide
  have hHw : bgB (sumWB ++ decB z ++ sepB ++ grT m n) woB = false := by
    rw [ByteArray.append_assoc, ByteArray.append_assoc]; exact bgB_sum _
  have hLl : ∀ x ∈ L.map tmL, lacks x 10 := by
    intro x hx
    obtain ⟨y, _, rfl⟩ := List.mem_map.1 hx
    exact tmL_lacks y
  have hpS : pfB (sumX n m z L) woB = false := by
    obtain ⟨R, hR⟩ := sumX_head n m z L
    rw [hR]; exact pfB_sum R
  constructor
  · have hr := impl_reads hpq
    have hrk : readOk (frT p q) = true := by
      unfold readOk
      rw [hr.1, hr.2.1, hr.2.2.1, hr.2.2.2, hpq, beq_ba]; rfl
    obtain ⟨c1, c2⟩ := cut_line hA (glue (sumX n m z L) G)
    have hW : bdW (stX G n m z L p q) = frT p q := by
      unfold bdW; rw [hs, c1]; exact cpA_app _ _
    have hP : bdP (stX G n m z L p q) = p := by unfold bdP; rw [hW, if_pos hrk, hr.1]
    have hQ : bdQ (stX G n m z L p q) = q := by unfold bdQ; rw [hW, if_pos hrk, hr.2.1]
    have hL : stL (stX G n m z L p q) = (sumX n m z L, true, G) := by
      have h1 := stI_all hpS G (6 - G.length) [] hok
      rw [show G.length + (6 - G.length) = 6 by omega, List.nil_append] at h1
      unfold stL
      rw [hW, hrk, hs, c2]
      exact h1
    unfold isS
    rw [hL, hP, hQ]
    simp only
    rw [if_pos trivial, rI, Option.bind_some, if_pos hF]
  · have hr := spec_reads hpq
    have ef : fracT p q = frT p q := by unfold fracT; rw [if_pos hpq]
    have hrk : rdOk (frT p q) = true := by
      unfold rdOk
      rw [hr.1, hr.2.1, hr.2.2.1, hr.2.2.2, hpq, ef, beq_ba]; rfl
    have hW : ttW (stX G n m z L p q) = ((stWB ++ frT p q) :: (G.map grN ++ (sumWB ++ decB z ++ sepB ++ grT m n) :: L.map tmL)) ++ [noB] := by
      unfold ttW
      rw [hs, hsl, glue_lines]
      refine split_lines _ _ hA fun x hx => ?_
      rcases List.mem_append.1 hx with hx | hx
      · obtain ⟨y, _, rfl⟩ := List.mem_map.1 hx
        exact grN_lacks y
      · rcases List.mem_cons.1 hx with rfl | hx
        · exact hH
        · exact hLl x hx
    have h0 : tt0 (stX G n m z L p q) = stWB ++ frT p q := by unfold tt0; rw [hW]; rfl
    have hB : ttB (stX G n m z L p q) = frT p q := by unfold ttB; rw [h0]; exact ext_right stWB (frT p q)
    have hK : ttK (stX G n m z L p q) = true := by
      unfold ttK
      rw [h0, hW, bgB_app, Bool.and_true]
      have hlen : (((stWB ++ frT p q) :: (G.map grN ++ (sumWB ++ decB z ++ sepB ++ grT m n) :: L.map tmL)) ++ [noB]).length - 1 = ((stWB ++ frT p q) :: (G.map grN ++ (sumWB ++ decB z ++ sepB ++ grT m n) :: L.map tmL)).length := by rw [List.length_append]; simp
      rw [hlen, List.getElem?_append_right (Nat.le_refl _), Nat.sub_self]
      show (_ && (noB == noB)) = true
      rw [beq_ba, Bool.and_true]
      simp only [List.length_append, List.length_cons, List.length_map, List.length_nil]
      rw [decide_eq_false (by omega)]; rfl
    have hT : (ttW (stX G n m z L p q)).tail = G.map grN ++ (sumWB ++ decB z ++ sepB ++ grT m n) :: (L.map tmL ++ [noB]) := by
      rw [hW, List.cons_append, List.tail_cons, List.append_assoc]; rfl
    have hS6 := stS_all (V := L.map tmL ++ [noB]) hHw G (6 - G.length) [] hok
    rw [show G.length + (6 - G.length) = 6 by omega, List.nil_append] at hS6
    have hdl : ((sumWB ++ decB z ++ sepB ++ grT m n) :: (L.map tmL ++ [noB])).dropLast = (sumWB ++ decB z ++ sepB ++ grT m n) :: L.map tmL := by
      rw [← List.cons_append, List.dropLast_concat]
    have hln : lnB noB ((sumWB ++ decB z ++ sepB ++ grT m n) :: L.map tmL) = sumX n m z L := by
      rw [lnB_lines, hsl]; apply ByteArray.ext; simp [noB]
    unfold ttO
    rw [hB, hT, hr.1, hr.2.1, if_pos ⟨hK, hrk⟩, hS6, Option.bind_some]
    simp only
    rw [hdl, hln, rS, Option.bind_some, if_pos hF]
/-! ### only such texts are read -/
theorem stI_in : ∀ (k : Nat) (r : ByteArray) (G : List Gr), grsIn G → grsIn (stI k r G).2.2 ∧ (stI k r G).2.2.length ≤ G.length + k
  | 0, r, G, h => ⟨h, Nat.le_refl _⟩
  | k + 1, r, G, h => by
    rw [stI]
    split
    · split
      · refine ⟨fun x hx => ?_, by simp⟩
        rcases List.mem_append.1 hx with hx | hx
        · exact h x hx
        · obtain rfl := List.mem_singleton.1 hx
          simp only; omega
      · rename_i g hg
        have hlt := rgO_lt (n := g.1) (m := g.2) hg
        have := stI_in k (cutB r lineB) (G ++ [⟨(g.1 : Int), (g.2 : Int)⟩]) (fun x hx => by
          rcases List.mem_append.1 hx with hx | hx
          · exact h x hx
          · obtain rfl := List.mem_singleton.1 hx
            simp only; omega)
        refine ⟨this.1, ?_⟩
        have h2 := this.2
        simp only [List.length_append, List.length_singleton] at h2
        omega
    · exact ⟨h, by simp only; omega⟩
theorem stS_in : ∀ (k : Nat) (W : List ByteArray) (G : List Gr) (y : List ByteArray × List Gr), grsIn G → stS k W G = some y → grsIn y.2 ∧ y.2.length ≤ G.length + k
  | 0, W, G, y, h, e => by
    rw [stS] at e
    injection e with e
    subst e
    exact ⟨h, Nat.le_refl _⟩
  | k + 1, [], G, y, h, e => by
    rw [stS] at e
    injection e with e
    subst e
    exact ⟨h, by simp only; omega⟩
  | k + 1, w :: W, G, y, h, e => by
    rw [stS] at e
    split at e
    · cases hg : rsO (w.extract 8 w.size) with
      | none => rw [hg] at e; cases e
      | some g =>
        rw [hg, Option.bind_some] at e
        have hlt := rgO_lt (n := g.1) (m := g.2) (by rw [graph_same]; exact hg)
        have := stS_in k W (G ++ [⟨(g.1 : Int), (g.2 : Int)⟩]) y (fun x hx => by
          rcases List.mem_append.1 hx with hx | hx
          · exact h x hx
          · obtain rfl := List.mem_singleton.1 hx
            simp only; omega) e
        refine ⟨this.1, ?_⟩
        have h2 := this.2
        simp only [List.length_append, List.length_singleton] at h2
        omega
    · injection e with e
      subst e
      exact ⟨h, by simp only; omega⟩
def stGood (s : ByteArray) (x : StV) : Prop := ∃ (G : List Gr) (n m : Nat) (z : Int) (L : List Tm) (p q : Int), x = (G, (n : Int), (m : Int), z, L, p, q) ∧ m ≤ 4294967295 ∧ u32L L ∧ L.length ≤ 64 ∧ grsIn G ∧ G.length ≤ 6 ∧ stF s x
theorem isS_in {s : ByteArray} {x : StV} (h : isS s = some x) : stGood s x := by
  unfold isS at h
  split at h
  · cases hO : isO (stL s).1 with
    | none => rw [hO] at h; cases h
    | some y =>
      obtain ⟨n, m, z, L, rfl, hm, hu, hF⟩ := isO_in hO
      rw [hO, Option.bind_some] at h
      split at h
      · rename_i hF2
        injection h with h
        subst h
        have hG : grsIn (stL s).2.2 ∧ (stL s).2.2.length ≤ 6 := by
          unfold stL stE
          split
          · have := stI_in 6 (cutB s lineB) [] (fun x hx => by cases hx)
            simpa using this
          · exact ⟨(fun x hx => by cases hx), by simp⟩
        exact ⟨_, n, m, z, L, _, _, rfl, hm, hu, (sumB_in hF.1 (by omega) hu).2.2.1, hG.1, hG.2, hF2⟩
      · cases h
  · cases h
theorem ttO_in {s : ByteArray} {x : StV} (h : ttO s = some x) : stGood s x := by
  unfold ttO at h
  split at h
  · cases hS : stS 6 (ttW s).tail [] with
    | none => rw [hS] at h; cases h
    | some y =>
      have hG := stS_in 6 _ _ y (fun x hx => by cases hx) hS
      rw [hS, Option.bind_some] at h
      cases hO : ssO (lnB noB y.1.dropLast) with
      | none => rw [hO] at h; cases h
      | some w =>
        obtain ⟨n, m, z, L, rfl, hm, hu, hF⟩ := ssO_in hO
        rw [hO, Option.bind_some] at h
        split at h
        · rename_i hF2
          injection h with h
          subst h
          exact ⟨_, n, m, z, L, _, _, rfl, hm, hu, (sumB_in hF.1 (by omega) hu).2.2.1, hG.1, by simpa using hG.2, hF2⟩
        · cases h
  · cases h
theorem st_reads {s : ByteArray} {x : StV} (h : stGood s x) : isS s = some x ∧ ttO s = some x := by
  obtain ⟨G, n, m, z, L, p, q, rfl, hm, hu, hl, hG, h6, hF⟩ := h
  have e := hF.2
  rw [ba_eq, decide_eq_true_eq] at e
  have := reads_st hF.1 ⟨by simp only [maxLen]; omega, hG⟩ hm (by simp only [maxLen]; omega) hu
  rw [e] at this
  exact this
theorem st_same (s : ByteArray) : isS s = ttO s := by
  cases h1 : isS s with
  | some x => exact (st_reads (isS_in h1)).2.symm
  | none =>
    cases h2 : ttO s with
    | none => rfl
    | some x =>
      have := (st_reads (ttO_in h2)).1
      rw [h1] at this
      cases this
end Go.Proofs.YtgiakpeneckgfaaGreatDoorAi
end

section
/- Contracts: marks in sums. -/
namespace Go.Proofs.YtgiakpeneckgfaaGreatDoorAi
open Go Go.RowKit
set_option linter.unusedVariables false
set_option linter.unusedSimpArgs false
set_option maxRecDepth 20000

def marksT : Nat → Int → List Tm
  | 0, _ => []
  | n + 1, k => ⟨k, k + 1, k + 1 + 1, k + 1 + 1 + 1, k + 1 + 1 + 1 + 1⟩ :: marksT n (k + 5)
@[simp] theorem marksT_len : ∀ (n : Nat) (k : Int), (marksT n k).length = n
  | 0, _ => rfl
  | n + 1, k => by simp [marksT, marksT_len n]
theorem marksT_get : ∀ (n : Nat) (k : Int) (i : Nat) (h : i < (marksT n k).length), (marksT n k)[i] = ⟨k + 5 * i, k + 5 * i + 1, k + 5 * i + 1 + 1, k + 5 * i + 1 + 1 + 1, k + 5 * i + 1 + 1 + 1 + 1⟩
  | 0, _, i, h => by simp [marksT] at h
  | n + 1, k, 0, h => by simp [marksT]
  | n + 1, k, i + 1, h => by
    simp only [marksT, List.getElem_cons_succ]
    rw [marksT_get n (k + 5) i]
    simp only [Tm.mk.injEq]
    omega
@[simp] theorem marksT_inj (n n' : Nat) (k k' : Int) : marksT n k = marksT n' k' ↔ n = n' ∧ (n = 0 ∨ k = k') := by
  constructor
  · intro h
    have hn : n = n' := by have := congrArg List.length h; simpa using this
    subst hn
    refine ⟨rfl, ?_⟩
    cases n with
    | zero => exact .inl rfl
    | succ n =>
      right
      simp only [marksT, List.cons.injEq, Tm.mk.injEq] at h
      exact h.1.1
  · rintro ⟨rfl, h⟩
    rcases h with h | h
    · subst h; rfl
    · subst h; rfl
theorem step_gen {α : Type} (M ps : List α) (i : Nat) (h : i < ps.length) (hl : M.length = ps.length) : (M.take i ++ ps.drop i).set i (M[i]'(by omega)) = M.take (i + 1) ++ ps.drop (i + 1) := by
  have hm : (M.take i).length = i := by simp; omega
  rw [List.set_append_right _ _ (by omega), hm, Nat.sub_self, List.drop_eq_getElem_cons h, List.set_cons_zero, List.take_succ_eq_append_getElem (by omega), List.append_assoc]
  rfl
theorem set_tm (l : List Tm) (i : Nat) (a b c d e : Int) (h : i < l.length) : (((((flatA (mapA tmA l)).set (i * 5) (.int .i64 a)).set (i * 5 + 1) (.int .i64 b)).set (i * 5 + 1 + 1) (.int .u32 c)).set (i * 5 + 3) (.int .i64 d)).set (i * 5 + 3 + 1) (.int .i64 e) = flatA (mapA tmA (l.set i ⟨a, b, c, d, e⟩)) := flatA_set (f := tmA) l i ⟨a, b, c, d, e⟩ h
noncomputable def sp_markT : List (Option (List AV)) → List AV → Option (AV × List (Option (List AV))) := pv (pf (ι := (List Tm) × (Int) × (Cp)) (α := AV × List (Option (List AV))) (fun ⟨ps, k, t⟩ => (0 ≤ k ∧ k ≤ 1000) ∧ ps.length ≤ 64) (fun i => .agg (((fun ⟨ps, k, t⟩ => [some (flatA (tmsA ps))] : (List Tm) × (Int) × (Cp) → List (Option (List AV))) i).map enO) :: (fun ⟨ps, k, t⟩ => [.ref 0 5 0 ps.length t, .int .i64 k] : (List Tm) × (Int) × (Cp) → List AV) i) (fun ⟨ps, k, t⟩ => (.int .i64 (k + 5 * ps.length), [some (flatA (tmsA (marksT ps.length k)))])))
theorem sp_markT_eq (ps : List Tm) (k : Int) (t : Cp) (h : (0 ≤ k ∧ k ≤ 1000) ∧ ps.length ≤ 64) : sp_markT [some (flatA (tmsA ps))] [.ref 0 5 0 ps.length t, .int .i64 k] = some (.int .i64 (k + 5 * ps.length), [some (flatA (tmsA (marksT ps.length k)))]) := by
  unfold sp_markT pv
  exact pf_eq (ι := (List Tm) × (Int) × (Cp)) (α := AV × List (Option (List AV))) (ps, k, t) h (by rintro ⟨ps', k', t'⟩ _ e; simp_all [enO, Int.natCast_inj])
set_option maxHeartbeats 1000000 in
theorem v_laws_markTermS : QV PP 61 sp_markT := by
  refine QV_pf fun i h => ?_
  obtain ⟨ps, k, t⟩ := i
  replace h : (0 ≤ k ∧ k ≤ 1000) ∧ ps.length ≤ 64 := h
  refine H_code Quiet.nil hmix k_laws_markTermS rfl (fun b => b) (by simp [AHeap.n]) (fun _ _ => rfl) (by rfl) (by first | rfl | simp) ?_
  show wpc _ PP _ c_laws_markTermS (initSt [.ref 0 5 0 ps.length t, .int .i64 k] ⟨[some (flatA (tmsA ps))]⟩) (endH (fun b => b) r_laws_markTermS (.int .i64 (k + 5 * ps.length)) [some (flatA (tmsA (marksT ps.length k)))])
  obtain ⟨hk, hl⟩ := h
  simp -dsimp -implicitDefEqProofs [c_laws_markTermS, r_laws_markTermS]
  refine wpLoop_st (fun (i : Nat × List Tm) => ⟨tl [(0, .ref 0 5 0 ps.length t), (1, .int .i64 (k + 5 * i.1)), (5, .int .i64 i.1)], ⟨[some (flatA (tmsA i.2))]⟩⟩) (fun i => i.1 ≤ ps.length ∧ i.2.length = ps.length ∧ i.2 = (marksT ps.length k).take i.1 ++ ps.drop i.1) (fun i => ps.length - i.1) (0, ps) ⟨by simp, rfl, by simp⟩ (Sub.keep (by simp) (by simp [hsub]) (by simp)) ?_
  rintro ⟨i, L⟩ ⟨h1, h2, h3⟩
  simp only at h1 h2 h3
  simp -dsimp -implicitDefEqProofs
  refine brW_of (fun h => ?_) (fun h => ?_) <;> simp only [decide_eq_true_eq, decide_eq_false_iff_not] at h
  · have hi : i < ps.length := by simpa using h
    have w1 : IntKind.i64.wrap (k + 5 * (i : Int) + 1) = k + 5 * i + 1 := wrapI64 (by omega) (by omega)
    have w2 : IntKind.i64.wrap (k + 5 * (i : Int) + 1 + 1) = k + 5 * i + 1 + 1 := wrapI64 (by omega) (by omega)
    have w3 : IntKind.i64.wrap (k + 5 * (i : Int) + 1 + 1 + 1) = k + 5 * i + 1 + 1 + 1 := wrapI64 (by omega) (by omega)
    have w4 : IntKind.i64.wrap (k + 5 * (i : Int) + 1 + 1 + 1 + 1) = k + 5 * i + 1 + 1 + 1 + 1 := wrapI64 (by omega) (by omega)
    have w5 : IntKind.i64.wrap (k + 5 * (i : Int) + 1 + 1 + 1 + 1 + 1) = k + 5 * i + 1 + 1 + 1 + 1 + 1 := wrapI64 (by omega) (by omega)
    have wu : IntKind.u32.wrap (k + 5 * (i : Int) + 1 + 1) = k + 5 * i + 1 + 1 := wrap32 (by omega) (by omega)
    have hw := wrapNat (i := i) (by omega)
    have f1 : i * 5 + 1 ≤ L.length * 5 := by omega
    have f2 : i * 5 + 1 + 1 ≤ L.length * 5 := by omega
    have f3 : i * 5 + 1 + 1 + 1 ≤ L.length * 5 := by omega
    have f4 : i * 5 + 3 + 1 ≤ L.length * 5 := by omega
    have f5 : i * 5 + 3 + 1 + 1 ≤ L.length * 5 := by omega
    have hs := set_tm L i (k + 5 * i) (k + 5 * i + 1) (k + 5 * i + 1 + 1) (k + 5 * i + 1 + 1 + 1) (k + 5 * i + 1 + 1 + 1 + 1) (by omega)
    simp -dsimp -implicitDefEqProofs [hi, w1, w2, w3, w4, w5, wu, hw, f1, f2, f3, f4, f5, hs]
    refine .mk (i + 1, L.set i ⟨k + 5 * i, k + 5 * i + 1, k + 5 * i + 1 + 1, k + 5 * i + 1 + 1 + 1, k + 5 * i + 1 + 1 + 1 + 1⟩) ⟨by simp only; omega, by simp [h2], ?_⟩ (by simp only; omega) (Sub.keep (by simp) (by simp [hsub]) (by simp [w5, hw]; omega))
    simp only
    rw [h3]
    have hg := marksT_get ps.length k i (by simpa using hi)
    rw [← hg]
    exact step_gen (marksT ps.length k) ps i hi (by simp)
  · have hi : i = ps.length := by simp at h; omega
    subst hi
    have h3 : L = marksT ps.length k := by
      rw [h3, List.drop_length, List.append_nil, List.take_of_length_le (by simp)]
    subst h3
    simp -dsimp -implicitDefEqProofs [hsub]
noncomputable def sp_markT0 : List AV → Option (AV) := pf (ι := (Int)) (α := AV) (fun k => True) (fun k => [.sl [] false, .int .i64 k]) (fun k => .int .i64 k)
theorem sp_markT0_eq (k : Int) : sp_markT0 [.sl [] false, .int .i64 k] = some (.int .i64 k) := by
  unfold sp_markT0
  exact pf_eq (ι := (Int)) (α := AV) k trivial (by rintro k' _ e; simp_all [Int.natCast_inj])
attribute [simp] sp_markT0_eq
theorem q_laws_markTermS : QP PP 61 sp_markT0 := by
  refine QP_pf (fun k h => ?_) fun k h => ?_
  · exact ⟨by first | rfl | simp, by first | rfl | simp⟩
  replace h : True := h
  refine P_code Quiet.nil hmix k_laws_markTermS rfl ?_ ?_
  · first | rfl | simp
  show wpc 0 PP _ c_laws_markTermS (initSt [.sl [] false, .int .i64 k] .nil) (endP r_laws_markTermS (.int .i64 k))
  simp -dsimp -implicitDefEqProofs [c_laws_markTermS, r_laws_markTermS]
  refine wpLoop_st (fun (_ : Unit) => ⟨tl [(0, .sl [] false), (1, .int .i64 k), (5, .int .i64 0)], ⟨[]⟩⟩) (fun _ => True) (fun _ => 0) () trivial (Sub.keep (by simp) (by simp [hsub]) (by simp)) ?_
  intro _ _
  simp -dsimp -implicitDefEqProofs
theorem e_laws_markTermS : QE PP 61 (refE (spV sp_markT) (spR sp_markT0)) := QE.ref v_laws_markTermS.toE q_laws_markTermS.toR
noncomputable def sp_heldT : List AV → Option (AV) := pf (ι := (Nat) × (Int)) (α := AV) (fun ⟨n, k⟩ => (0 ≤ k ∧ k ≤ 1000) ∧ n ≤ 64) (fun ⟨n, k⟩ => [.sl (tmsA (marksT n k)) false, .int .i64 k]) (fun ⟨n, k⟩ => .int .i64 (k + 5 * n))
theorem sp_heldT_eq (n : Nat) (k : Int) (h : (0 ≤ k ∧ k ≤ 1000) ∧ n ≤ 64) : sp_heldT [.sl (tmsA (marksT n k)) false, .int .i64 k] = some (.int .i64 (k + 5 * n)) := by
  unfold sp_heldT
  exact pf_eq (ι := (Nat) × (Int)) (α := AV) (n, k) h (by rintro ⟨n', k'⟩ _ e; simp_all [Int.natCast_inj])
theorem q_laws_heldTermS : QP PP 62 sp_heldT := by
  refine QP_pf (fun i h => ?_) fun i h => ?_
  · obtain ⟨n, k⟩ := i; exact ⟨by first | rfl | simp, by first | rfl | simp⟩
  obtain ⟨n, k⟩ := i
  replace h : (0 ≤ k ∧ k ≤ 1000) ∧ n ≤ 64 := h
  refine P_code Quiet.nil hmix k_laws_heldTermS rfl ?_ ?_
  · first | rfl | simp
  show wpc 0 PP _ c_laws_heldTermS (initSt [.sl (tmsA (marksT n k)) false, .int .i64 k] .nil) (endP r_laws_heldTermS (.int .i64 (k + 5 * n)))
  obtain ⟨hk, hl⟩ := h
  simp -dsimp -implicitDefEqProofs [c_laws_heldTermS, r_laws_heldTermS]
  refine wpLoop_st (fun (i : Nat) => ⟨tl [(0, .sl (tmsA (marksT n k)) false), (1, .int .i64 (k + 5 * i)), (5, .int .i64 i)], ⟨[]⟩⟩) (fun i => i ≤ n) (fun i => n - i) 0 (by omega) (Sub.keep (by simp) (by simp [hsub]) (by simp)) ?_
  intro i hi
  simp -dsimp -implicitDefEqProofs
  refine brW_of (fun h => ?_) (fun h => ?_) <;> simp only [decide_eq_true_eq, decide_eq_false_iff_not] at h
  · have hi : i < n := by simpa using h
    have w1 : IntKind.i64.wrap (k + 5 * (i : Int) + 1) = k + 5 * i + 1 := wrapI64 (by omega) (by omega)
    have w2 : IntKind.i64.wrap (k + 5 * (i : Int) + 1 + 1) = k + 5 * i + 1 + 1 := wrapI64 (by omega) (by omega)
    have w3 : IntKind.i64.wrap (k + 5 * (i : Int) + 1 + 1 + 1) = k + 5 * i + 1 + 1 + 1 := wrapI64 (by omega) (by omega)
    have w4 : IntKind.i64.wrap (k + 5 * (i : Int) + 1 + 1 + 1 + 1) = k + 5 * i + 1 + 1 + 1 + 1 := wrapI64 (by omega) (by omega)
    have w5 : IntKind.i64.wrap (k + 5 * (i : Int) + 1 + 1 + 1 + 1 + 1) = k + 5 * i + 1 + 1 + 1 + 1 + 1 := wrapI64 (by omega) (by omega)
    have wu : IntKind.u32.wrap (k + 5 * (i : Int) + 1 + 1) = k + 5 * i + 1 + 1 := wrap32 (by omega) (by omega)
    have hw := wrapNat (i := i) (by omega)
    have hg := marksT_get n k i (by simpa using hi)
    simp -dsimp -implicitDefEqProofs [hi, w1, w2, w3, w4, w5, wu, hw, hg]
    exact .mk (i + 1) (by omega) (by omega) (Sub.keep (by simp) (by simp [hsub]) (by simp [w5, hw]; omega))
  · have hi : i = n := by simp at h; omega
    subst hi
    simp -dsimp -implicitDefEqProofs
noncomputable def sp_markSum : List (Option (List AV)) → List AV → Option (AV × List (Option (List AV))) := pv (pf (ι := (Int) × (Int) × (Int) × (List Tm) × (Int) × (Cp)) (α := AV × List (Option (List AV))) (fun ⟨a, b, c, ps, k, t⟩ => (0 ≤ k ∧ k ≤ 1000) ∧ ps.length ≤ 64) (fun i => .agg (((fun ⟨a, b, c, ps, k, t⟩ => [some (flatA (tmsA ps))] : (Int) × (Int) × (Int) × (List Tm) × (Int) × (Cp) → List (Option (List AV))) i).map enO) :: (fun ⟨a, b, c, ps, k, t⟩ => [.agg [.int .i64 a, .int .u32 b, .int .i64 c, .ref 0 5 0 ps.length t], .int .i64 k] : (Int) × (Int) × (Int) × (List Tm) × (Int) × (Cp) → List AV) i) (fun ⟨a, b, c, ps, k, t⟩ => (.int .i64 (k + 5 * ps.length), [some (flatA (tmsA (marksT ps.length k)))])))
theorem sp_markSum_eq (a b c : Int) (ps : List Tm) (k : Int) (t : Cp) (h : (0 ≤ k ∧ k ≤ 1000) ∧ ps.length ≤ 64) : sp_markSum [some (flatA (tmsA ps))] [.agg [.int .i64 a, .int .u32 b, .int .i64 c, .ref 0 5 0 ps.length t], .int .i64 k] = some (.int .i64 (k + 5 * ps.length), [some (flatA (tmsA (marksT ps.length k)))]) := by
  unfold sp_markSum pv
  exact pf_eq (ι := (Int) × (Int) × (Int) × (List Tm) × (Int) × (Cp)) (α := AV × List (Option (List AV))) (a, b, c, ps, k, t) h (by rintro ⟨a', b', c', ps', k', t'⟩ _ e; simp_all [enO, Int.natCast_inj])
theorem v_laws_markFlagSum : QV PP 29 sp_markSum := by
  refine QV_pf fun i h => ?_
  obtain ⟨a, b, c, ps, k, t⟩ := i
  replace h : (0 ≤ k ∧ k ≤ 1000) ∧ ps.length ≤ 64 := h
  refine H_code (Quiet.e1 e_laws_markTermS Quiet.nil) hmix k_laws_markFlagSum rfl (fun b => b) (by simp [AHeap.n]) (fun _ _ => rfl) (by rfl) (by first | rfl | simp) ?_
  show wpc _ PP _ c_laws_markFlagSum (initSt [.agg [.int .i64 a, .int .u32 b, .int .i64 c, .ref 0 5 0 ps.length t], .int .i64 k] ⟨[some (flatA (tmsA ps))]⟩) (endH (fun b => b) r_laws_markFlagSum (.int .i64 (k + 5 * ps.length)) [some (flatA (tmsA (marksT ps.length k)))])
  simp -dsimp -implicitDefEqProofs [c_laws_markFlagSum, r_laws_markFlagSum, sp_markT_eq ps k t h, hsub]
noncomputable def sp_markSum0 : List AV → Option (AV) := pf (ι := (Int) × (Int) × (Int) × (Int)) (α := AV) (fun ⟨a, b, c, k⟩ => True) (fun ⟨a, b, c, k⟩ => [.agg [.int .i64 a, .int .u32 b, .int .i64 c, .sl [] false], .int .i64 k]) (fun ⟨a, b, c, k⟩ => .int .i64 k)
theorem sp_markSum0_eq (a b c k : Int) : sp_markSum0 [.agg [.int .i64 a, .int .u32 b, .int .i64 c, .sl [] false], .int .i64 k] = some (.int .i64 k) := by
  unfold sp_markSum0
  exact pf_eq (ι := (Int) × (Int) × (Int) × (Int)) (α := AV) (a, b, c, k) trivial (by rintro ⟨a', b', c', k'⟩ _ e; simp_all [Int.natCast_inj])
attribute [simp] sp_markSum0_eq
theorem q_laws_markFlagSum : QP PP 29 sp_markSum0 := by
  refine QP_pf (fun i h => ?_) fun i h => ?_
  · obtain ⟨a, b, c, k⟩ := i; exact ⟨by first | rfl | simp, by first | rfl | simp⟩
  obtain ⟨a, b, c, k⟩ := i
  replace h : True := h
  refine P_code (Quiet.e1 e_laws_markTermS Quiet.nil) hmix k_laws_markFlagSum rfl ?_ ?_
  · first | rfl | simp
  show wpc 0 PP _ c_laws_markFlagSum (initSt [.agg [.int .i64 a, .int .u32 b, .int .i64 c, .sl [] false], .int .i64 k] .nil) (endP r_laws_markFlagSum (.int .i64 k))
  simp -dsimp -implicitDefEqProofs [c_laws_markFlagSum, r_laws_markFlagSum]
theorem e_laws_markFlagSum : QE PP 29 (refE (spV sp_markSum) (spR sp_markSum0)) := QE.ref v_laws_markFlagSum.toE q_laws_markFlagSum.toR
noncomputable def sp_heldSum : List AV → Option (AV) := pf (ι := (Int) × (Int) × (Int) × (Nat) × (Int)) (α := AV) (fun ⟨a, b, c, n, k⟩ => (0 ≤ k ∧ k ≤ 1000) ∧ n ≤ 64) (fun ⟨a, b, c, n, k⟩ => [.agg [.int .i64 a, .int .u32 b, .int .i64 c, .sl (tmsA (marksT n k)) false], .int .i64 k]) (fun ⟨a, b, c, n, k⟩ => .int .i64 (k + 5 * n))
theorem sp_heldSum_eq (a b c : Int) (n : Nat) (k : Int) (h : (0 ≤ k ∧ k ≤ 1000) ∧ n ≤ 64) : sp_heldSum [.agg [.int .i64 a, .int .u32 b, .int .i64 c, .sl (tmsA (marksT n k)) false], .int .i64 k] = some (.int .i64 (k + 5 * n)) := by
  unfold sp_heldSum
  exact pf_eq (ι := (Int) × (Int) × (Int) × (Nat) × (Int)) (α := AV) (a, b, c, n, k) h (by rintro ⟨a', b', c', n', k'⟩ _ e; simp_all [Int.natCast_inj])
theorem q_laws_heldFlagSum : QP PP 31 sp_heldSum := by
  refine QP_pf (fun i h => ?_) fun i h => ?_
  · obtain ⟨a, b, c, n, k⟩ := i; exact ⟨by first | rfl | simp, by first | rfl | simp⟩
  obtain ⟨a, b, c, n, k⟩ := i
  replace h : (0 ≤ k ∧ k ≤ 1000) ∧ n ≤ 64 := h
  refine P_code (Quiet.e1 q_laws_heldTermS.toR Quiet.nil) hmix k_laws_heldFlagSum rfl ?_ ?_
  · first | rfl | simp
  show wpc 0 PP _ c_laws_heldFlagSum (initSt [.agg [.int .i64 a, .int .u32 b, .int .i64 c, .sl (tmsA (marksT n k)) false], .int .i64 k] .nil) (endP r_laws_heldFlagSum (.int .i64 (k + 5 * n)))
  have hn : ¬ (k + 5 * (n : Int) < 0) := by omega
  simp -dsimp -implicitDefEqProofs [c_laws_heldFlagSum, r_laws_heldFlagSum, sp_heldT_eq n k h, hn]
end Go.Proofs.YtgiakpeneckgfaaGreatDoorAi
end

section
/- Contracts: marks in statements. -/
namespace Go.Proofs.YtgiakpeneckgfaaGreatDoorAi
open Go Go.RowKit
set_option linter.unusedVariables false
set_option linter.unusedSimpArgs false
set_option maxRecDepth 20000

def marksG : Nat → Int → List Gr
  | 0, _ => []
  | n + 1, k => ⟨k, k + 1⟩ :: marksG n (k + 2)
@[simp] theorem marksG_len : ∀ (n : Nat) (k : Int), (marksG n k).length = n
  | 0, _ => rfl
  | n + 1, k => by simp [marksG, marksG_len n]
theorem marksG_get : ∀ (n : Nat) (k : Int) (i : Nat) (h : i < (marksG n k).length), (marksG n k)[i] = ⟨k + 2 * i, k + 2 * i + 1⟩
  | 0, _, i, h => by simp [marksG] at h
  | n + 1, k, 0, h => by simp [marksG]
  | n + 1, k, i + 1, h => by
    simp only [marksG, List.getElem_cons_succ]
    rw [marksG_get n (k + 2) i]
    simp only [Gr.mk.injEq]
    omega
@[simp] theorem marksG_inj (n n' : Nat) (k k' : Int) : marksG n k = marksG n' k' ↔ n = n' ∧ (n = 0 ∨ k = k') := by
  constructor
  · intro h
    have hn : n = n' := by have := congrArg List.length h; simpa using this
    subst hn
    refine ⟨rfl, ?_⟩
    cases n with
    | zero => exact .inl rfl
    | succ n =>
      right
      simp only [marksG, List.cons.injEq, Gr.mk.injEq] at h
      exact h.1.1
  · rintro ⟨rfl, h⟩
    rcases h with h | h
    · subst h; rfl
    · subst h; rfl
noncomputable def sp_markG : List (Option (List AV)) → List AV → Option (AV × List (Option (List AV))) := pv (pf (ι := (List Gr) × (Int) × (Cp)) (α := AV × List (Option (List AV))) (fun ⟨ps, k, t⟩ => (0 ≤ k ∧ k ≤ 1000) ∧ ps.length ≤ 64) (fun i => .agg (((fun ⟨ps, k, t⟩ => [some (flatA (grsA ps))] : (List Gr) × (Int) × (Cp) → List (Option (List AV))) i).map enO) :: (fun ⟨ps, k, t⟩ => [.ref 0 2 0 ps.length t, .int .i64 k] : (List Gr) × (Int) × (Cp) → List AV) i) (fun ⟨ps, k, t⟩ => (.int .i64 (k + 2 * ps.length), [some (flatA (grsA (marksG ps.length k)))])))
theorem sp_markG_eq (ps : List Gr) (k : Int) (t : Cp) (h : (0 ≤ k ∧ k ≤ 1000) ∧ ps.length ≤ 64) : sp_markG [some (flatA (grsA ps))] [.ref 0 2 0 ps.length t, .int .i64 k] = some (.int .i64 (k + 2 * ps.length), [some (flatA (grsA (marksG ps.length k)))]) := by
  unfold sp_markG pv
  exact pf_eq (ι := (List Gr) × (Int) × (Cp)) (α := AV × List (Option (List AV))) (ps, k, t) h (by rintro ⟨ps', k', t'⟩ _ e; simp_all [enO, Int.natCast_inj])
set_option maxHeartbeats 1000000 in
theorem v_laws_markGraphS : QV PP 28 sp_markG := by
  refine QV_pf fun i h => ?_
  obtain ⟨ps, k, t⟩ := i
  replace h : (0 ≤ k ∧ k ≤ 1000) ∧ ps.length ≤ 64 := h
  refine H_code Quiet.nil hmix k_laws_markGraphS rfl (fun b => b) (by simp [AHeap.n]) (fun _ _ => rfl) (by rfl) (by first | rfl | simp) ?_
  show wpc _ PP _ c_laws_markGraphS (initSt [.ref 0 2 0 ps.length t, .int .i64 k] ⟨[some (flatA (grsA ps))]⟩) (endH (fun b => b) r_laws_markGraphS (.int .i64 (k + 2 * ps.length)) [some (flatA (grsA (marksG ps.length k)))])
  obtain ⟨hk, hl⟩ := h
  simp -dsimp -implicitDefEqProofs [c_laws_markGraphS, r_laws_markGraphS]
  refine wpLoop_st (fun (i : Nat × List Gr) => ⟨tl [(0, .ref 0 2 0 ps.length t), (1, .int .i64 (k + 2 * i.1)), (5, .int .i64 i.1)], ⟨[some (flatA (grsA i.2))]⟩⟩) (fun i => i.1 ≤ ps.length ∧ i.2.length = ps.length ∧ i.2 = (marksG ps.length k).take i.1 ++ ps.drop i.1) (fun i => ps.length - i.1) (0, ps) ⟨by simp, rfl, by simp⟩ (Sub.keep (by simp) (by simp [hsub]) (by simp)) ?_
  rintro ⟨i, L⟩ ⟨h1, h2, h3⟩
  simp only at h1 h2 h3
  simp -dsimp -implicitDefEqProofs
  refine brW_of (fun h => ?_) (fun h => ?_) <;> simp only [decide_eq_true_eq, decide_eq_false_iff_not] at h
  · have hi : i < ps.length := by simpa using h
    have w1 : IntKind.i64.wrap (k + 2 * (i : Int) + 1) = k + 2 * i + 1 := wrapI64 (by omega) (by omega)
    have w2 : IntKind.i64.wrap (k + 2 * (i : Int) + 1 + 1) = k + 2 * i + 1 + 1 := wrapI64 (by omega) (by omega)
    have wu : IntKind.u32.wrap (k + 2 * (i : Int) + 1) = k + 2 * i + 1 := wrap32 (by omega) (by omega)
    have hw := wrapNat (i := i) (by omega)
    have f1 : i * 2 + 1 ≤ L.length * 2 := by omega
    have f2 : i * 2 + 1 + 1 ≤ L.length * 2 := by omega
    have hs := set_gr L i (k + 2 * i) (k + 2 * i + 1) (by omega)
    simp -dsimp -implicitDefEqProofs [hi, w1, w2, wu, hw, f1, f2, hs]
    refine .mk (i + 1, L.set i ⟨k + 2 * i, k + 2 * i + 1⟩) ⟨by simp only; omega, by simp [h2], ?_⟩ (by simp only; omega) (Sub.keep (by simp) (by simp [hsub]) (by simp [w2, hw]; omega))
    simp only
    rw [h3]
    have hg := marksG_get ps.length k i (by simpa using hi)
    rw [← hg]
    exact step_gen (marksG ps.length k) ps i hi (by simp)
  · have hi : i = ps.length := by simp at h; omega
    subst hi
    have h3 : L = marksG ps.length k := by
      rw [h3, List.drop_length, List.append_nil, List.take_of_length_le (by simp)]
    subst h3
    simp -dsimp -implicitDefEqProofs [hsub]
noncomputable def sp_markG0 : List AV → Option (AV) := pf (ι := (Int)) (α := AV) (fun k => True) (fun k => [.sl [] false, .int .i64 k]) (fun k => .int .i64 k)
theorem sp_markG0_eq (k : Int) : sp_markG0 [.sl [] false, .int .i64 k] = some (.int .i64 k) := by
  unfold sp_markG0
  exact pf_eq (ι := (Int)) (α := AV) k trivial (by rintro k' _ e; simp_all [Int.natCast_inj])
attribute [simp] sp_markG0_eq
theorem q_laws_markGraphS : QP PP 28 sp_markG0 := by
  refine QP_pf (fun k h => ?_) fun k h => ?_
  · exact ⟨by first | rfl | simp, by first | rfl | simp⟩
  replace h : True := h
  refine P_code Quiet.nil hmix k_laws_markGraphS rfl ?_ ?_
  · first | rfl | simp
  show wpc 0 PP _ c_laws_markGraphS (initSt [.sl [] false, .int .i64 k] .nil) (endP r_laws_markGraphS (.int .i64 k))
  simp -dsimp -implicitDefEqProofs [c_laws_markGraphS, r_laws_markGraphS]
  refine wpLoop_st (fun (_ : Unit) => ⟨tl [(0, .sl [] false), (1, .int .i64 k), (5, .int .i64 0)], ⟨[]⟩⟩) (fun _ => True) (fun _ => 0) () trivial (Sub.keep (by simp) (by simp [hsub]) (by simp)) ?_
  intro _ _
  simp -dsimp -implicitDefEqProofs
theorem e_laws_markGraphS : QE PP 28 (refE (spV sp_markG) (spR sp_markG0)) := QE.ref v_laws_markGraphS.toE q_laws_markGraphS.toR
noncomputable def sp_heldG : List AV → Option (AV) := pf (ι := (Nat) × (Int)) (α := AV) (fun ⟨n, k⟩ => (0 ≤ k ∧ k ≤ 1000) ∧ n ≤ 64) (fun ⟨n, k⟩ => [.sl (grsA (marksG n k)) false, .int .i64 k]) (fun ⟨n, k⟩ => .int .i64 (k + 2 * n))
theorem sp_heldG_eq (n : Nat) (k : Int) (h : (0 ≤ k ∧ k ≤ 1000) ∧ n ≤ 64) : sp_heldG [.sl (grsA (marksG n k)) false, .int .i64 k] = some (.int .i64 (k + 2 * n)) := by
  unfold sp_heldG
  exact pf_eq (ι := (Nat) × (Int)) (α := AV) (n, k) h (by rintro ⟨n', k'⟩ _ e; simp_all [Int.natCast_inj])
theorem q_laws_heldGraphS : QP PP 30 sp_heldG := by
  refine QP_pf (fun i h => ?_) fun i h => ?_
  · obtain ⟨n, k⟩ := i; exact ⟨by first | rfl | simp, by first | rfl | simp⟩
  obtain ⟨n, k⟩ := i
  replace h : (0 ≤ k ∧ k ≤ 1000) ∧ n ≤ 64 := h
  refine P_code Quiet.nil hmix k_laws_heldGraphS rfl ?_ ?_
  · first | rfl | simp
  show wpc 0 PP _ c_laws_heldGraphS (initSt [.sl (grsA (marksG n k)) false, .int .i64 k] .nil) (endP r_laws_heldGraphS (.int .i64 (k + 2 * n)))
  obtain ⟨hk, hl⟩ := h
  simp -dsimp -implicitDefEqProofs [c_laws_heldGraphS, r_laws_heldGraphS]
  refine wpLoop_st (fun (i : Nat) => ⟨tl [(0, .sl (grsA (marksG n k)) false), (1, .int .i64 (k + 2 * i)), (5, .int .i64 i)], ⟨[]⟩⟩) (fun i => i ≤ n) (fun i => n - i) 0 (by omega) (Sub.keep (by simp) (by simp [hsub]) (by simp)) ?_
  intro i hi
  simp -dsimp -implicitDefEqProofs
  refine brW_of (fun h => ?_) (fun h => ?_) <;> simp only [decide_eq_true_eq, decide_eq_false_iff_not] at h
  · have hi : i < n := by simpa using h
    have w1 : IntKind.i64.wrap (k + 2 * (i : Int) + 1) = k + 2 * i + 1 := wrapI64 (by omega) (by omega)
    have w2 : IntKind.i64.wrap (k + 2 * (i : Int) + 1 + 1) = k + 2 * i + 1 + 1 := wrapI64 (by omega) (by omega)
    have wu : IntKind.u32.wrap (k + 2 * (i : Int) + 1) = k + 2 * i + 1 := wrap32 (by omega) (by omega)
    have hw := wrapNat (i := i) (by omega)
    have hg := marksG_get n k i (by simpa using hi)
    simp -dsimp -implicitDefEqProofs [hi, w1, w2, wu, hw, hg]
    exact .mk (i + 1) (by omega) (by omega) (Sub.keep (by simp) (by simp [hsub]) (by simp [w2, hw]; omega))
  · have hi : i = n := by simp at h; omega
    subst hi
    simp -dsimp -implicitDefEqProofs
/-! ### statements: four shapes -/
noncomputable def sp_markSt2 : List (Option (List AV)) → List AV → Option (AV × List (Option (List AV))) := pv (pf (ι := (Int) × (Int) × (Int) × (Int) × (Int) × (List Gr) × (List Tm) × (Int) × (Cp) × (Cp)) (α := AV × List (Option (List AV))) (fun ⟨n, e, z, p, q, gs, ts, k, t, u⟩ => (0 ≤ k ∧ k ≤ 500) ∧ gs.length ≤ 64 ∧ ts.length ≤ 64) (fun i => .agg (((fun ⟨n, e, z, p, q, gs, ts, k, t, u⟩ => [some (flatA (grsA gs)), some (flatA (tmsA ts))] : (Int) × (Int) × (Int) × (Int) × (Int) × (List Gr) × (List Tm) × (Int) × (Cp) × (Cp) → List (Option (List AV))) i).map enO) :: (fun ⟨n, e, z, p, q, gs, ts, k, t, u⟩ => [.agg [.ref 0 2 0 gs.length t, .int .i64 n, .int .u32 e, .int .i64 z, .ref 1 5 0 ts.length u, .int .i64 p, .int .i64 q], .int .i64 k] : (Int) × (Int) × (Int) × (Int) × (Int) × (List Gr) × (List Tm) × (Int) × (Cp) × (Cp) → List AV) i) (fun ⟨n, e, z, p, q, gs, ts, k, t, u⟩ => (.int .i64 (k + 2 * gs.length + 5 * ts.length), [some (flatA (grsA (marksG gs.length k))), some (flatA (tmsA (marksT ts.length (k + 2 * gs.length))))])))
theorem sp_markSt2_eq (n e z p q : Int) (gs : List Gr) (ts : List Tm) (k : Int) (t u : Cp) (h : (0 ≤ k ∧ k ≤ 500) ∧ gs.length ≤ 64 ∧ ts.length ≤ 64) : sp_markSt2 [some (flatA (grsA gs)), some (flatA (tmsA ts))] [.agg [.ref 0 2 0 gs.length t, .int .i64 n, .int .u32 e, .int .i64 z, .ref 1 5 0 ts.length u, .int .i64 p, .int .i64 q], .int .i64 k] = some (.int .i64 (k + 2 * gs.length + 5 * ts.length), [some (flatA (grsA (marksG gs.length k))), some (flatA (tmsA (marksT ts.length (k + 2 * gs.length))))]) := by
  unfold sp_markSt2 pv
  exact pf_eq (ι := (Int) × (Int) × (Int) × (Int) × (Int) × (List Gr) × (List Tm) × (Int) × (Cp) × (Cp)) (α := AV × List (Option (List AV))) (n, e, z, p, q, gs, ts, k, t, u) h (by rintro ⟨n', e', z', p', q', gs', ts', k', t', u'⟩ _ e; simp_all [enO, Int.natCast_inj])
namespace M2
theorem v_laws_markStatement : QV PP 7 sp_markSt2 := by
  refine QV_pf fun i h => ?_
  obtain ⟨n, e, z, p, q, gs, ts, k, t, u⟩ := i
  replace h : (0 ≤ k ∧ k ≤ 500) ∧ gs.length ≤ 64 ∧ ts.length ≤ 64 := h
  refine H_code (Quiet.e1 e_laws_markGraphS (Quiet.e1 e_laws_markFlagSum Quiet.nil)) hmix k_laws_markStatement rfl (fun b => b) (by simp [AHeap.n]) (fun _ _ => rfl) (by rfl) (by first | rfl | simp) ?_
  show wpc _ PP _ c_laws_markStatement (initSt [.agg [.ref 0 2 0 gs.length t, .int .i64 n, .int .u32 e, .int .i64 z, .ref 1 5 0 ts.length u, .int .i64 p, .int .i64 q], .int .i64 k] ⟨[some (flatA (grsA gs)), some (flatA (tmsA ts))]⟩) (endH (fun b => b) r_laws_markStatement (.int .i64 (k + 2 * gs.length + 5 * ts.length)) [some (flatA (grsA (marksG gs.length k))), some (flatA (tmsA (marksT ts.length (k + 2 * gs.length))))])
  have h1 := sp_markG_eq gs k t ⟨by omega, h.2.1⟩
  have h2 := sp_markSum_eq n e z ts (k + 2 * gs.length) u ⟨by omega, h.2.2⟩
  simp -dsimp -implicitDefEqProofs [c_laws_markStatement, r_laws_markStatement, h1, h2, hsub]
end M2
noncomputable def sp_markSt1 : List (Option (List AV)) → List AV → Option (AV × List (Option (List AV))) := pv (pf (ι := (Int) × (Int) × (Int) × (Int) × (Int) × (List Gr) × (Int) × (Cp)) (α := AV × List (Option (List AV))) (fun ⟨n, e, z, p, q, gs, k, t⟩ => (0 ≤ k ∧ k ≤ 500) ∧ gs.length ≤ 64) (fun i => .agg (((fun ⟨n, e, z, p, q, gs, k, t⟩ => [some (flatA (grsA gs))] : (Int) × (Int) × (Int) × (Int) × (Int) × (List Gr) × (Int) × (Cp) → List (Option (List AV))) i).map enO) :: (fun ⟨n, e, z, p, q, gs, k, t⟩ => [.agg [.ref 0 2 0 gs.length t, .int .i64 n, .int .u32 e, .int .i64 z, .sl [] false, .int .i64 p, .int .i64 q], .int .i64 k] : (Int) × (Int) × (Int) × (Int) × (Int) × (List Gr) × (Int) × (Cp) → List AV) i) (fun ⟨n, e, z, p, q, gs, k, t⟩ => (.int .i64 (k + 2 * gs.length), [some (flatA (grsA (marksG gs.length k)))])))
theorem sp_markSt1_eq (n e z p q : Int) (gs : List Gr) (k : Int) (t : Cp) (h : (0 ≤ k ∧ k ≤ 500) ∧ gs.length ≤ 64) : sp_markSt1 [some (flatA (grsA gs))] [.agg [.ref 0 2 0 gs.length t, .int .i64 n, .int .u32 e, .int .i64 z, .sl [] false, .int .i64 p, .int .i64 q], .int .i64 k] = some (.int .i64 (k + 2 * gs.length), [some (flatA (grsA (marksG gs.length k)))]) := by
  unfold sp_markSt1 pv
  exact pf_eq (ι := (Int) × (Int) × (Int) × (Int) × (Int) × (List Gr) × (Int) × (Cp)) (α := AV × List (Option (List AV))) (n, e, z, p, q, gs, k, t) h (by rintro ⟨n', e', z', p', q', gs', k', t'⟩ _ e; simp_all [enO, Int.natCast_inj])
namespace M1
theorem v_laws_markStatement : QV PP 7 sp_markSt1 := by
  refine QV_pf fun i h => ?_
  obtain ⟨n, e, z, p, q, gs, k, t⟩ := i
  replace h : (0 ≤ k ∧ k ≤ 500) ∧ gs.length ≤ 64 := h
  refine H_code (Quiet.e1 e_laws_markGraphS (Quiet.e1 e_laws_markFlagSum Quiet.nil)) hmix k_laws_markStatement rfl (fun b => b) (by simp [AHeap.n]) (fun _ _ => rfl) (by rfl) (by first | rfl | simp) ?_
  show wpc _ PP _ c_laws_markStatement (initSt [.agg [.ref 0 2 0 gs.length t, .int .i64 n, .int .u32 e, .int .i64 z, .sl [] false, .int .i64 p, .int .i64 q], .int .i64 k] ⟨[some (flatA (grsA gs))]⟩) (endH (fun b => b) r_laws_markStatement (.int .i64 (k + 2 * gs.length)) [some (flatA (grsA (marksG gs.length k)))])
  have h1 := sp_markG_eq gs k t ⟨by omega, h.2⟩
  have h2 := sp_markSum0_eq n e z (k + 2 * gs.length)
  simp -dsimp -implicitDefEqProofs [c_laws_markStatement, r_laws_markStatement, h1, h2, hsub]
end M1
noncomputable def sp_markSt3 : List (Option (List AV)) → List AV → Option (AV × List (Option (List AV))) := pv (pf (ι := (Int) × (Int) × (Int) × (Int) × (Int) × (List Tm) × (Int) × (Cp)) (α := AV × List (Option (List AV))) (fun ⟨n, e, z, p, q, ts, k, u⟩ => (0 ≤ k ∧ k ≤ 500) ∧ ts.length ≤ 64) (fun i => .agg (((fun ⟨n, e, z, p, q, ts, k, u⟩ => [some (flatA (tmsA ts))] : (Int) × (Int) × (Int) × (Int) × (Int) × (List Tm) × (Int) × (Cp) → List (Option (List AV))) i).map enO) :: (fun ⟨n, e, z, p, q, ts, k, u⟩ => [.agg [.sl [] false, .int .i64 n, .int .u32 e, .int .i64 z, .ref 0 5 0 ts.length u, .int .i64 p, .int .i64 q], .int .i64 k] : (Int) × (Int) × (Int) × (Int) × (Int) × (List Tm) × (Int) × (Cp) → List AV) i) (fun ⟨n, e, z, p, q, ts, k, u⟩ => (.int .i64 (k + 5 * ts.length), [some (flatA (tmsA (marksT ts.length k)))])))
theorem sp_markSt3_eq (n e z p q : Int) (ts : List Tm) (k : Int) (u : Cp) (h : (0 ≤ k ∧ k ≤ 500) ∧ ts.length ≤ 64) : sp_markSt3 [some (flatA (tmsA ts))] [.agg [.sl [] false, .int .i64 n, .int .u32 e, .int .i64 z, .ref 0 5 0 ts.length u, .int .i64 p, .int .i64 q], .int .i64 k] = some (.int .i64 (k + 5 * ts.length), [some (flatA (tmsA (marksT ts.length k)))]) := by
  unfold sp_markSt3 pv
  exact pf_eq (ι := (Int) × (Int) × (Int) × (Int) × (Int) × (List Tm) × (Int) × (Cp)) (α := AV × List (Option (List AV))) (n, e, z, p, q, ts, k, u) h (by rintro ⟨n', e', z', p', q', ts', k', u'⟩ _ e; simp_all [enO, Int.natCast_inj])
namespace M3
theorem v_laws_markStatement : QV PP 7 sp_markSt3 := by
  refine QV_pf fun i h => ?_
  obtain ⟨n, e, z, p, q, ts, k, u⟩ := i
  replace h : (0 ≤ k ∧ k ≤ 500) ∧ ts.length ≤ 64 := h
  refine H_code (Quiet.e1 e_laws_markGraphS (Quiet.e1 e_laws_markFlagSum Quiet.nil)) hmix k_laws_markStatement rfl (fun b => b) (by simp [AHeap.n]) (fun _ _ => rfl) (by rfl) (by first | rfl | simp) ?_
  show wpc _ PP _ c_laws_markStatement (initSt [.agg [.sl [] false, .int .i64 n, .int .u32 e, .int .i64 z, .ref 0 5 0 ts.length u, .int .i64 p, .int .i64 q], .int .i64 k] ⟨[some (flatA (tmsA ts))]⟩) (endH (fun b => b) r_laws_markStatement (.int .i64 (k + 5 * ts.length)) [some (flatA (tmsA (marksT ts.length k)))])
  have h1 := sp_markG0_eq k
  have h2 := sp_markSum_eq n e z ts k u ⟨by omega, h.2⟩
  simp -dsimp -implicitDefEqProofs [c_laws_markStatement, r_laws_markStatement, h1, h2, hsub]
end M3
noncomputable def sp_markSt0 : List AV → Option (AV) := pf (ι := (Int) × (Int) × (Int) × (Int) × (Int) × (Int)) (α := AV) (fun ⟨n, e, z, p, q, k⟩ => True) (fun ⟨n, e, z, p, q, k⟩ => [.agg [.sl [] false, .int .i64 n, .int .u32 e, .int .i64 z, .sl [] false, .int .i64 p, .int .i64 q], .int .i64 k]) (fun ⟨n, e, z, p, q, k⟩ => .int .i64 k)
theorem sp_markSt0_eq (n e z p q k : Int) : sp_markSt0 [.agg [.sl [] false, .int .i64 n, .int .u32 e, .int .i64 z, .sl [] false, .int .i64 p, .int .i64 q], .int .i64 k] = some (.int .i64 k) := by
  unfold sp_markSt0
  exact pf_eq (ι := (Int) × (Int) × (Int) × (Int) × (Int) × (Int)) (α := AV) (n, e, z, p, q, k) trivial (by rintro ⟨n', e', z', p', q', k'⟩ _ e; simp_all [Int.natCast_inj])
attribute [simp] sp_markSt0_eq
theorem q_laws_markStatement : QP PP 7 sp_markSt0 := by
  refine QP_pf (fun i h => ?_) fun i h => ?_
  · obtain ⟨n, e, z, p, q, k⟩ := i; exact ⟨by first | rfl | simp, by first | rfl | simp⟩
  obtain ⟨n, e, z, p, q, k⟩ := i
  replace h : True := h
  refine P_code (Quiet.e1 e_laws_markGraphS (Quiet.e1 e_laws_markFlagSum Quiet.nil)) hmix k_laws_markStatement rfl ?_ ?_
  · first | rfl | simp
  show wpc 0 PP _ c_laws_markStatement (initSt [.agg [.sl [] false, .int .i64 n, .int .u32 e, .int .i64 z, .sl [] false, .int .i64 p, .int .i64 q], .int .i64 k] .nil) (endP r_laws_markStatement (.int .i64 k))
  have h1 := sp_markG0_eq k
  have h2 := sp_markSum0_eq n e z k
  simp -dsimp -implicitDefEqProofs [c_laws_markStatement, r_laws_markStatement, h1, h2]
noncomputable def sp_heldSt : List AV → Option (AV) := pf (ι := (Int) × (Int) × (Int) × (Int) × (Int) × (Nat) × (Nat) × (Int)) (α := AV) (fun ⟨n, e, z, p, q, a, m, k⟩ => (0 ≤ k ∧ k ≤ 500) ∧ a ≤ 64 ∧ m ≤ 64) (fun ⟨n, e, z, p, q, a, m, k⟩ => [.agg [.sl (grsA (marksG a k)) false, .int .i64 n, .int .u32 e, .int .i64 z, .sl (tmsA (marksT m (k + 2 * a))) false, .int .i64 p, .int .i64 q], .int .i64 k]) (fun ⟨n, e, z, p, q, a, m, k⟩ => .int .i64 (k + 2 * a + 5 * m))
theorem sp_heldSt_eq (n e z p q : Int) (a m : Nat) (k : Int) (h : (0 ≤ k ∧ k ≤ 500) ∧ a ≤ 64 ∧ m ≤ 64) : sp_heldSt [.agg [.sl (grsA (marksG a k)) false, .int .i64 n, .int .u32 e, .int .i64 z, .sl (tmsA (marksT m (k + 2 * a))) false, .int .i64 p, .int .i64 q], .int .i64 k] = some (.int .i64 (k + 2 * a + 5 * m)) := by
  unfold sp_heldSt
  exact pf_eq (ι := (Int) × (Int) × (Int) × (Int) × (Int) × (Nat) × (Nat) × (Int)) (α := AV) (n, e, z, p, q, a, m, k) h (by rintro ⟨n', e', z', p', q', a', m', k'⟩ _ e; simp_all [Int.natCast_inj])
theorem q_laws_heldStatement : QP PP 8 sp_heldSt := by
  refine QP_pf (fun i h => ?_) fun i h => ?_
  · obtain ⟨n, e, z, p, q, a, m, k⟩ := i; exact ⟨by first | rfl | simp, by first | rfl | simp⟩
  obtain ⟨n, e, z, p, q, a, m, k⟩ := i
  replace h : (0 ≤ k ∧ k ≤ 500) ∧ a ≤ 64 ∧ m ≤ 64 := h
  refine P_code (Quiet.e1 q_laws_heldGraphS.toR (Quiet.e1 q_laws_heldFlagSum.toR Quiet.nil)) hmix k_laws_heldStatement rfl ?_ ?_
  · first | rfl | simp
  show wpc 0 PP _ c_laws_heldStatement (initSt [.agg [.sl (grsA (marksG a k)) false, .int .i64 n, .int .u32 e, .int .i64 z, .sl (tmsA (marksT m (k + 2 * a))) false, .int .i64 p, .int .i64 q], .int .i64 k] .nil) (endP r_laws_heldStatement (.int .i64 (k + 2 * a + 5 * m)))
  have h1 := sp_heldG_eq a k ⟨by omega, h.2.1⟩
  have h2 := sp_heldSum_eq n e z m (k + 2 * a) ⟨by omega, h.2.2⟩
  have n1 : ¬ (k + 2 * (a : Int) < 0) := by omega
  have n2 : ¬ (k + 2 * (a : Int) + 5 * (m : Int) < 0) := by omega
  simp -dsimp -implicitDefEqProofs [c_laws_heldStatement, r_laws_heldStatement, h1, h2, n1, n2]
end Go.Proofs.YtgiakpeneckgfaaGreatDoorAi
end

section
/- Law: StatementText. -/
namespace Go.Proofs.YtgiakpeneckgfaaGreatDoorAi
open Go Go.RowKit
set_option linter.unusedVariables false
set_option linter.unusedSimpArgs false
set_option maxRecDepth 20000

noncomputable def sp_eqStatement : List AV → Option (AV) := pf (ι := (List Gr) × (Int) × (Int) × (Int) × (List Tm) × (Int) × (Int)) (α := AV) (fun ⟨gs, tn, te, s, L, p, q⟩ => gs.length ≤ maxLen ∧ L.length ≤ maxLen) (fun ⟨gs, tn, te, s, L, p, q⟩ => [.agg [.sl (grsA gs) false, .int .i64 tn, .int .u32 te, .int .i64 s, .sl (tmsA L) false, .int .i64 p, .int .i64 q], .agg [.sl (grsA gs) false, .int .i64 tn, .int .u32 te, .int .i64 s, .sl (tmsA L) false, .int .i64 p, .int .i64 q]]) (fun ⟨gs, tn, te, s, L, p, q⟩ => .bool true)
theorem sp_eqStatement_eq (gs : List Gr) (tn te s : Int) (L : List Tm) (p q : Int) (h : gs.length ≤ maxLen ∧ L.length ≤ maxLen) : sp_eqStatement [.agg [.sl (grsA gs) false, .int .i64 tn, .int .u32 te, .int .i64 s, .sl (tmsA L) false, .int .i64 p, .int .i64 q], .agg [.sl (grsA gs) false, .int .i64 tn, .int .u32 te, .int .i64 s, .sl (tmsA L) false, .int .i64 p, .int .i64 q]] = some (.bool true) := by
  unfold sp_eqStatement
  exact pf_eq (ι := (List Gr) × (Int) × (Int) × (Int) × (List Tm) × (Int) × (Int)) (α := AV) (gs, tn, te, s, L, p, q) h (by rintro ⟨gs', tn', te', s', L', p', q'⟩ _ e; simp_all [Int.natCast_inj])
theorem q_laws_eqStatement : QP PP 6 sp_eqStatement := by
  refine QP_pf (fun i h => ?_) fun i h => ?_
  · obtain ⟨gs, tn, te, s, L, p, q⟩ := i; exact ⟨by first | rfl | simp, by first | rfl | simp⟩
  obtain ⟨gs, tn, te, s, L, p, q⟩ := i
  replace h : gs.length ≤ maxLen ∧ L.length ≤ maxLen := h
  refine P_code (Quiet.q1 q_laws_eqGraphS (Quiet.q1 q_laws_eqFlagSum (Quiet.q1 q_laws_eqFraction Quiet.nil))) hmix k_laws_eqStatement rfl ?_ ?_
  · first | rfl | simp
  show wpc 0 PP _ c_laws_eqStatement (initSt [.agg [.sl (grsA gs) false, .int .i64 tn, .int .u32 te, .int .i64 s, .sl (tmsA L) false, .int .i64 p, .int .i64 q], .agg [.sl (grsA gs) false, .int .i64 tn, .int .u32 te, .int .i64 s, .sl (tmsA L) false, .int .i64 p, .int .i64 q]] .nil) (endP r_laws_eqStatement (.bool true))
  have h1 := sp_eqGrs_eq gs gs h.1
  have h2 := sp_eqFlagSum_eq tn te s L tn te s L h.2
  simp -dsimp -implicitDefEqProofs [c_laws_eqStatement, r_laws_eqStatement, h1, h2]
end Go.Proofs.YtgiakpeneckgfaaGreatDoorAi
end

section
/- Law: ReadStatement. -/
namespace Go.Proofs.YtgiakpeneckgfaaGreatDoorAi
open Go Go.RowKit
set_option linter.unusedVariables false
set_option linter.unusedSimpArgs false
set_option maxRecDepth 20000

theorem eqSt_nil (n e s p q : Int) : sp_eqStatement [.agg [.sl [] false, .int .i64 n, .int .u32 e, .int .i64 s, .sl [] false, .int .i64 p, .int .i64 q], .agg [.sl [] false, .int .i64 n, .int .u32 e, .int .i64 s, .sl [] false, .int .i64 p, .int .i64 q]] = some (.bool true) := sp_eqStatement_eq [] n e s [] p q ⟨by simp [maxLen], by simp [maxLen]⟩
theorem heldSt_nil (n e s p q : Int) : sp_heldSt [.agg [.sl [] false, .int .i64 n, .int .u32 e, .int .i64 s, .sl [] false, .int .i64 p, .int .i64 q], .int .i64 1] = some (.int .i64 1) := by
  have := sp_heldSt_eq n e s p q 0 0 1 ⟨by omega, by omega, by omega⟩
  simp [marksG, marksT] at this
  exact this
set_option maxHeartbeats 4000000 in
theorem law_readStatement (xs : List AV) (h : WtA [.str] xs) : T PP 3 xs .nil fun r _ => r = .bool true := by
  simp only [WtA_cons, WtA_nil] at h
  obtain ⟨x, _, rfl, hx, rfl⟩ := h
  obtain ⟨s, rfl, hs⟩ := (WtV_str x).1 hx
  by_cases c : (1048576 : Int) < s.size
  · refine (P_code (r := .bool true) (Quiet.q1 q_spec_ReadStatement (Quiet.e1 n_impl_ReadStatement.toE (Quiet.e1 q_laws_eqStatement.toR (Quiet.e1 q_laws_markStatement.toR (Quiet.e1 q_laws_heldStatement.toR Quiet.nil))))) hmix k_laws_FnExactReadStatement rfl rfl ?_).mono fun r A' h => h.1
    simp -dsimp -implicitDefEqProofs [c_laws_FnExactReadStatement, r_laws_FnExactReadStatement, c]
  have hS := sp_readStS_eq s (by omega)
  have hI := sp_readSt_eq s (by omega)
  by_cases big : 20000 < s.size
  · have e1 : ttAA s = bigA := if_pos big
    have e2 : isAA s = bigA := if_pos big
    have e3 : isBB s = [] := if_pos big
    rw [e1] at hS
    rw [e2, e3] at hI
    refine (P_code (r := .bool true) (Quiet.q1 q_spec_ReadStatement (Quiet.e1 n_impl_ReadStatement.toE (Quiet.e1 q_laws_eqStatement.toR (Quiet.e1 q_laws_markStatement.toR (Quiet.e1 q_laws_heldStatement.toR Quiet.nil))))) hmix k_laws_FnExactReadStatement rfl rfl ?_).mono fun r A' h => h.1
    have hm := sp_markSt0_eq 0 0 0 0 0 1
    simp -dsimp -implicitDefEqProofs [c_laws_FnExactReadStatement, r_laws_FnExactReadStatement, c, hS, hI, bigA, eqSt_nil, heldSt_nil, hm]
  have e1 : ttAA s = ttA (ttO s) := if_neg big
  have e2 : isAA s = isA (isS s) := if_neg big
  have e3 : isBB s = isB (isS s) := if_neg big
  rw [e1] at hS
  rw [e2, e3, st_same s] at hI
  cases ho : ttO s with
  | none =>
    rw [ho] at hS hI
    refine (P_code (r := .bool true) (Quiet.q1 q_spec_ReadStatement (Quiet.e1 n_impl_ReadStatement.toE (Quiet.e1 q_laws_eqStatement.toR (Quiet.e1 q_laws_markStatement.toR (Quiet.e1 q_laws_heldStatement.toR Quiet.nil))))) hmix k_laws_FnExactReadStatement rfl rfl ?_).mono fun r A' h => h.1
    have hm := sp_markSt0_eq 0 0 0 0 0 1
    simp -dsimp -implicitDefEqProofs [c_laws_FnExactReadStatement, r_laws_FnExactReadStatement, c, hS, hI, ttA, isA, isB, eqSt_nil, heldSt_nil, hm]
  | some x =>
    obtain ⟨G, n, m, z, L, p, q, rfl, hm, hu, hl, hG, h6, hF⟩ := ttO_in ho
    rw [ho] at hS hI
    have hq := sp_eqStatement_eq G n m z L p q ⟨by simp only [maxLen]; omega, by simp only [maxLen]; omega⟩
    have hhd := sp_heldSt_eq n m z p q G.length L.length 1 ⟨by omega, by omega, by omega⟩
    have hneg : ¬ (1 + 2 * (G.length : Int) + 5 * (L.length : Int) < 0) := by omega
    by_cases gG : G = []
    · subst gG
      by_cases gL : L = []
      · subst gL
        refine (P_code (r := .bool true) (Quiet.q1 q_spec_ReadStatement (Quiet.e1 n_impl_ReadStatement.toE (Quiet.e1 q_laws_eqStatement.toR (Quiet.e1 q_laws_markStatement.toR (Quiet.e1 q_laws_heldStatement.toR Quiet.nil))))) hmix k_laws_FnExactReadStatement rfl rfl ?_).mono fun r A' h => h.1
        have hq0 : sp_eqStatement [.agg [.sl [] false, .int .i64 n, .int .u32 m, .int .i64 z, .sl [] false, .int .i64 p, .int .i64 q], .agg [.sl (grsA []) false, .int .i64 n, .int .u32 m, .int .i64 z, .sl (tmsA []) false, .int .i64 p, .int .i64 q]] = some (.bool true) := hq
        have hm := sp_markSt0_eq n m z p q 1
        simp -dsimp -implicitDefEqProofs [c_laws_FnExactReadStatement, r_laws_FnExactReadStatement, c, hS, hI, ttA, isA, isB, lvG_nil, obG_nil, lvT_nil, obT_nil, eqSt_nil, hq0, heldSt_nil, hm]
      · refine (P_code (r := .bool true) (Quiet.q1 q_spec_ReadStatement (Quiet.e1 n_impl_ReadStatement.toE (Quiet.e1 q_laws_eqStatement.toR (Quiet.e1 M3.v_laws_markStatement.toE (Quiet.e1 q_laws_heldStatement.toR Quiet.nil))))) hmix k_laws_FnExactReadStatement rfl rfl ?_).mono fun r A' h => h.1
        have hmk := fun t => sp_markSt3_eq n m z p q L 1 t ⟨by omega, hl⟩
        have hq0 : sp_eqStatement [.agg [.sl [] false, .int .i64 n, .int .u32 m, .int .i64 z, .sl (tmsA L) false, .int .i64 p, .int .i64 q], .agg [.sl (grsA []) false, .int .i64 n, .int .u32 m, .int .i64 z, .sl (tmsA L) false, .int .i64 p, .int .i64 q]] = some (.bool true) := hq
        have hhd : sp_heldSt [.agg [.sl [] false, .int .i64 n, .int .u32 m, .int .i64 z, .sl (tmsA (marksT L.length 1)) false, .int .i64 p, .int .i64 q], .int .i64 1] = some (.int .i64 (1 + 5 * (L.length : Int))) := by have h9 := hhd; simp [marksG] at h9; exact h9
        have hneg : ¬ (1 + 5 * (L.length : Int) < 0) := by omega
        simp -dsimp -implicitDefEqProofs [c_laws_FnExactReadStatement, r_laws_FnExactReadStatement, c, hS, hI, ttA, isA, isB, lvG_nil, obG_nil, lvT_cons gL, obT_cons gL, hq0, hhd, hmk, hneg]
    · by_cases gL : L = []
      · subst gL
        refine (P_code (r := .bool true) (Quiet.q1 q_spec_ReadStatement (Quiet.e1 n_impl_ReadStatement.toE (Quiet.e1 q_laws_eqStatement.toR (Quiet.e1 M1.v_laws_markStatement.toE (Quiet.e1 q_laws_heldStatement.toR Quiet.nil))))) hmix k_laws_FnExactReadStatement rfl rfl ?_).mono fun r A' h => h.1
        have hmk := fun t => sp_markSt1_eq n m z p q G 1 t ⟨by omega, by omega⟩
        have hq0 : sp_eqStatement [.agg [.sl (grsA G) false, .int .i64 n, .int .u32 m, .int .i64 z, .sl [] false, .int .i64 p, .int .i64 q], .agg [.sl (grsA G) false, .int .i64 n, .int .u32 m, .int .i64 z, .sl (tmsA []) false, .int .i64 p, .int .i64 q]] = some (.bool true) := hq
        have hhd : sp_heldSt [.agg [.sl (grsA (marksG G.length 1)) false, .int .i64 n, .int .u32 m, .int .i64 z, .sl [] false, .int .i64 p, .int .i64 q], .int .i64 1] = some (.int .i64 (1 + 2 * (G.length : Int))) := by have h9 := hhd; simp [marksT] at h9; exact h9
        have hneg : ¬ (1 + 2 * (G.length : Int) < 0) := by omega
        simp -dsimp -implicitDefEqProofs [c_laws_FnExactReadStatement, r_laws_FnExactReadStatement, c, hS, hI, ttA, isA, isB, lvG_cons gG, obG_cons gG, lvT_nil, obT_nil, hq0, hhd, hmk, hneg]
      · refine (P_code (r := .bool true) (Quiet.q1 q_spec_ReadStatement (Quiet.e1 n_impl_ReadStatement.toE (Quiet.e1 q_laws_eqStatement.toR (Quiet.e1 M2.v_laws_markStatement.toE (Quiet.e1 q_laws_heldStatement.toR Quiet.nil))))) hmix k_laws_FnExactReadStatement rfl rfl ?_).mono fun r A' h => h.1
        have hmk := fun t u => sp_markSt2_eq n m z p q G L 1 t u ⟨by omega, by omega, hl⟩
        simp -dsimp -implicitDefEqProofs [c_laws_FnExactReadStatement, r_laws_FnExactReadStatement, c, hS, hI, ttA, isA, isB, lvG_cons gG, obG_cons gG, lvT_cons gL, obT_cons gL, hq, hhd, hmk, hneg]
end Go.Proofs.YtgiakpeneckgfaaGreatDoorAi
end
