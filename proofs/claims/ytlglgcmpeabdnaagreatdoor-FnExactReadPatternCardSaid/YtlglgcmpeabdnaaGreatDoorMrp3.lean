/- Contracts, joined. -/
import Derived.Test.YtlglgcmpeabdnaaGreatDoorMrp2
import Derived.Test.YtlglgcmpeabdnaaGreatDoorShelfD
import Derived.Test.YtlglgcmpeabdnaaGreatDoorAiX
import Derived.Test.YtlglgcmpeabdnaaGreatDoorProg
import Derived.Test.YtlglgcmpeabdnaaGreatDoorShelfB
section
/- Contracts: strings.Split, strings.CutPrefix. Plain law: pieces of joined texts. -/
namespace Go.Proofs.YtlglgcmpeabdnaaGreatDoorAi
open Go Go.RowKit
set_option linter.unusedVariables false
set_option linter.unusedSimpArgs false
set_option maxRecDepth 20000

def piecesB (s sep : ByteArray) : List ByteArray := Go.Lib.splitB sep 0 (Go.Lib.countB s sep) s
theorem pieces_len (s sep : ByteArray) (h : 1 ≤ sep.size) : (piecesB s sep).length = Go.Lib.countB s sep + 1 := Go.Lib.splitB_all sep h 0 _ s rfl
theorem count_le (s sep : ByteArray) (h : 1 ≤ sep.size) : Go.Lib.countB s sep ≤ s.size := Go.Lib.countB_le sep h s.size s (Nat.le_refl _)
noncomputable def sp_pieces : List AV → Option (AV × List (Option (List AV))) := pf (ι := (ByteArray) × (ByteArray)) (α := AV × List (Option (List AV))) (fun ⟨s, sep⟩ => s.size ≤ 1048576 ∧ sep.size = 1) (fun ⟨s, sep⟩ => [.str s, .str sep]) (fun ⟨s, sep⟩ => (.ref 0 1 0 (piecesB s sep).length .tight, [some (flatA (strsA (piecesB s sep)))]))
theorem sp_pieces_eq (s sep : ByteArray) (h : s.size ≤ 1048576 ∧ sep.size = 1) : sp_pieces [.str s, .str sep] = some ((.ref 0 1 0 (piecesB s sep).length .tight, [some (flatA (strsA (piecesB s sep)))])) := by
  unfold sp_pieces
  exact pf_eq (ι := (ByteArray) × (ByteArray)) (α := AV × List (Option (List AV))) (s, sep) h (by rintro ⟨s', sep'⟩ _ e; simp_all [Int.natCast_inj])
theorem n_strings_Split : QN PP 32 sp_pieces := by
  refine QN_pf (fun i h => ?_) fun i h => ?_
  · obtain ⟨s, sep⟩ := i; first | rfl | simp
  obtain ⟨s, sep⟩ := i
  replace h : s.size ≤ 1048576 ∧ sep.size = 1 := h
  show T PP 32 [.str s, .str sep] .nil fun r' A' => r' = .ref 0 1 0 (piecesB s sep).length .tight ∧ A' = ⟨[some (flatA (strsA (piecesB s sep)))]⟩
  refine ⟨⟨_, Tryz.func32, by kernel_rfl, by kernel_rfl⟩, fun B w0 σ w vs hG hb hs hr => ?_⟩
  obtain ⟨v1, us, rfl, h1, h2⟩ := hr.head
  obtain ⟨v2, us2, rfl, h3, h4⟩ := h2.head
  obtain rfl : us2 = [] := List.eq_nil_of_length_eq_zero h4.1.symm
  cases h1; cases h3
  obtain ⟨m, hm⟩ := (hG w hb).max (by kernel_rfl)
  have hl := pieces_len s sep (by omega)
  have hc := count_le s sep (by omega)
  refine (Tryz.strings_Split s sep m w (by omega) (var_cell0 (by kernel_rfl) hm) (by omega)).mono ?_
  rintro e w' ⟨rfl, rfl⟩
  have hP : Go.Lib.splitB sep 0 (Go.Lib.countB s sep) s = piecesB s sep := rfl
  rw [hP, ← hl]
  generalize hL : piecesB s sep = L at *
  obtain ⟨σ', k1, k2, k3, k4⟩ := new_step hs hb (L.map Value.string).toArray 9 (flatA (strsA L)) (by rw [flat_strs]; simp) (fun j c hj => by
    rw [flat_strs] at hj
    simp only [mapA_get, Option.map_eq_some_iff] at hj
    obtain ⟨x, hx, rfl⟩ := hj
    exact ⟨.string x, by simp [hx], .str x, rfl⟩)
  refine ⟨_, _, _, σ', rfl, ⟨rfl, rfl⟩, k1, k2, ?_, k3⟩
  refine .ref 0 1 0 L.length .tight _ L.length w.heap.size (L.map Value.string).toArray.size (Nat.le_refl _) ?_ (fun _ => rfl) (fun _ => rfl) k4 (by simp) (fun h => by cases h) (fun h => by cases h)
  simp only [maxLen]; omega
def cpA (s p : ByteArray) : ByteArray := ⟨(Go.Lib.trimPrefix s.data.toList p.data.toList).toArray⟩
def cpI (s p : ByteArray) : Bool := Go.Lib.hasPrefix s.data.toList p.data.toList
noncomputable def sp_cutP : List AV → Option (AV) := pf (ι := (ByteArray) × (ByteArray)) (α := AV) (fun ⟨s, p⟩ => s.size ≤ 1048576) (fun ⟨s, p⟩ => [.str s, .str p]) (fun ⟨s, p⟩ => .tup [.str (cpA s p), .bool (cpI s p)])
theorem sp_cutP_eq (s p : ByteArray) (h : s.size ≤ 1048576) : sp_cutP [.str s, .str p] = some (.tup [.str (cpA s p), .bool (cpI s p)]) := by
  unfold sp_cutP
  exact pf_eq (ι := (ByteArray) × (ByteArray)) (α := AV) (s, p) h (by rintro ⟨s', p'⟩ _ e; simp_all [Int.natCast_inj])
theorem q_strings_CutPrefix : QP PP 80 sp_cutP := by
  refine QP_pf (fun i h => ?_) fun i h => ?_
  · obtain ⟨s, p⟩ := i; exact ⟨by first | rfl | simp, by first | rfl | simp⟩
  obtain ⟨s, p⟩ := i
  refine T.lib ⟨_, Tryz.func80, by kernel_rfl, by kernel_rfl⟩ (fun σ w vs hr hG => ?_) .nil
  obtain ⟨v1, us, rfl, h1, h2⟩ := hr.head
  obtain ⟨v2, us2, rfl, h3, h4⟩ := h2.head
  obtain rfl : us2 = [] := List.eq_nil_of_length_eq_zero h4.1.symm
  cases h1; cases h3
  refine (Tryz.strings_CutPrefix s p w).mono ?_
  rintro e w' ⟨rfl, rfl⟩
  refine ⟨_, rfl, Below.refl _ _, ?_⟩
  exact .tup [.str (cpA s p), .bool (cpI s p)] [.string _, .bool _] rfl (fun i c z hc hz => by
    match i, hc, hz with
    | 0, hc, hz => cases hc; cases hz; exact .str _
    | 1, hc, hz => cases hc; cases hz; exact .bool _
    | n + 2, hc, hz => cases hc)
theorem cpA_size (s p : ByteArray) : (cpA s p).size ≤ s.size := by
  have e : s.size = s.data.toList.length := by rw [Array.length_toList]; rfl
  unfold cpA Go.Lib.trimPrefix
  rw [e]
  split
  · simp only [ba_size, List.size_toArray, List.length_drop]; omega
  · simp only [ba_size, List.size_toArray]; omega

/-! ### pieces of joined texts -/
def lacks (a : ByteArray) (c : UInt8) : Prop := ∀ b ∈ a.data.toList, b ≠ c
theorem lacks_bAt {a : ByteArray} {c : UInt8} (h : lacks a c) (j : Nat) (hj : j < a.size) : bAt a j ≠ (c.toNat : Int) := by
  have h' : j < a.data.toList.length := by rw [Array.length_toList]; exact hj
  unfold bAt
  rw [List.getElem?_eq_getElem h', Option.getD_some]
  have := h _ (List.getElem_mem h')
  intro e
  apply this
  apply UInt8.toNat_inj.1
  omega
theorem splF_out (s : ByteArray) (c : Int) : ∀ k i f out, splF s c k i f out = out ++ splF s c k i f []
  | 0, i, f, out => by simp [splF]
  | k + 1, i, f, out => by
    rw [splF, splF]
    split
    · rw [splF_out s c k _ _ (out ++ [_]), splF_out s c k _ _ ([] ++ [_])]; simp
    · rw [splF_out s c k _ _ out]
theorem ext_shift (p r : ByteArray) (f i : Nat) : (p ++ r).extract (p.size + f) (p.size + i) = r.extract f i := by
  apply ByteArray.ext
  apply Array.ext'
  have h' : p.data.toList.length = p.size := by rw [Array.length_toList]; rfl
  rw [ByteArray.data_extract, ByteArray.data_extract, Array.toList_extract, Array.toList_extract, ByteArray.data_append, Array.toList_append, ← h']
  simp [List.extract, List.drop_append, Nat.add_sub_add_left]
  rw [List.drop_eq_nil_of_le (by omega), List.nil_append]
theorem splF_shift (p r : ByteArray) (c : Int) : ∀ k i f, splF (p ++ r) c k (p.size + i) (p.size + f) [] = splF r c k i f []
  | 0, i, f => by
    rw [splF, splF, ByteArray.size_append, ext_shift]
  | k + 1, i, f => by
    rw [splF, splF, bAt_right, ext_shift, show p.size + i + 1 = p.size + (i + 1) by omega]
    split
    · rw [splF_out, splF_out (s := r), splF_shift p r c k]
    · exact splF_shift p r c k _ _
theorem splitL_miss {a : ByteArray} {c : UInt8} (h : lacks a c) : splitL a (c.toNat : Int) = [a] := by
  unfold splitL
  have := splF_skip a (c.toNat : Int) 0 0 [] a.size 0 (fun j _ hj => lacks_bAt h j (by omega))
  rw [Nat.add_zero, Nat.zero_add] at this
  rw [this, splF, ext_all]; rfl
theorem splitL_hit {a : ByteArray} {c : UInt8} (h : lacks a c) (r : ByteArray) : splitL (a ++ ⟨#[c]⟩ ++ r) (c.toNat : Int) = a :: splitL r (c.toNat : Int) := by
  unfold splitL
  have hs : (⟨#[c]⟩ : ByteArray).size = 1 := rfl
  have e1 : a ++ ⟨#[c]⟩ ++ r = a ++ ((⟨#[c]⟩ : ByteArray) ++ r) := ByteArray.append_assoc ..
  have hsz : (a ++ ⟨#[c]⟩ ++ r).size = a.size + (r.size + 1) := by rw [e1, ByteArray.size_append, ByteArray.size_append, hs]; omega
  have hA : ∀ j, j < a.size → bAt (a ++ ⟨#[c]⟩ ++ r) j = bAt a j := fun j hj => by rw [e1, bAt_left _ _ _ hj]
  have hM : bAt (a ++ ⟨#[c]⟩ ++ r) a.size = (c.toNat : Int) := by
    have := bAt_right a ((⟨#[c]⟩ : ByteArray) ++ r) 0
    rw [Nat.add_zero] at this
    rw [e1, this, bAt_left _ r 0 (by rw [hs]; omega)]; rfl
  have eL : (a ++ ⟨#[c]⟩ ++ r).extract 0 a.size = a := by rw [e1]; exact ext_left _ _
  have hps : (a ++ (⟨#[c]⟩ : ByteArray)).size = a.size + 1 := by rw [ByteArray.size_append, hs]
  have sh := splF_shift (a ++ ⟨#[c]⟩) r (c.toNat : Int) r.size 0 0
  rw [hps, Nat.add_zero] at sh
  have s1 := splF_skip (a ++ ⟨#[c]⟩ ++ r) (c.toNat : Int) (r.size + 1) 0 [] a.size 0 (fun j _ hj => by rw [hA j (by omega)]; exact lacks_bAt h j (by omega))
  rw [Nat.zero_add] at s1
  rw [hsz, s1, splF, if_pos hM, eL, splF_out, sh]; rfl
theorem index_noneC (c : UInt8) : ∀ (a : List UInt8), (∀ b ∈ a, b ≠ c) → Go.Lib.index a [c] = -1
  | [], _ => rfl
  | d :: a, h => by
    rw [Go.Lib.index, index_noneC c a fun b hb => h b (List.mem_cons_of_mem _ hb)]
    have hc := h d (List.mem_cons_self ..)
    have : List.isPrefixOf [c] (d :: a) = false := by
      simp [List.isPrefixOf]; exact fun e => hc e.symm
    rw [this]; rfl
theorem index_atC (c : UInt8) (b : List UInt8) : ∀ (a : List UInt8), (∀ b ∈ a, b ≠ c) → Go.Lib.index (a ++ c :: b) [c] = a.length
  | [], _ => by
    rw [List.nil_append, Go.Lib.index]
    have : List.isPrefixOf [c] (c :: b) = true := by simp [List.isPrefixOf]
    rw [if_pos this]; rfl
  | d :: a, h => by
    rw [List.cons_append, Go.Lib.index, index_atC c b a fun x hx => h x (List.mem_cons_of_mem _ hx)]
    have hc := h d (List.mem_cons_self ..)
    have : List.isPrefixOf [c] (d :: (a ++ c :: b)) = false := by
      simp [List.isPrefixOf]; exact fun e => hc e.symm
    rw [this]
    have h2 : ((a.length : Int) == -1) = false := by rw [beq_eq_false_iff_ne]; omega
    rw [h2]; simp
theorem pieces_miss {a : ByteArray} {c : UInt8} (h : lacks a c) : piecesB a ⟨#[c]⟩ = [a] := by
  unfold piecesB
  exact Go.Lib.splitB_miss _ _ _ _ (index_noneC c _ h)
theorem pieces_hit {a : ByteArray} {c : UInt8} (h : lacks a c) (r : ByteArray) : piecesB (a ++ ⟨#[c]⟩ ++ r) ⟨#[c]⟩ = a :: piecesB r ⟨#[c]⟩ := by
  have hs : (⟨#[c]⟩ : ByteArray).size = 1 := rfl
  have e1 : a ++ ⟨#[c]⟩ ++ r = a ++ ((⟨#[c]⟩ : ByteArray) ++ r) := ByteArray.append_assoc ..
  have hl : a.data.toList.length = a.size := by rw [Array.length_toList]; rfl
  have el : (a ++ ⟨#[c]⟩ ++ r).data.toList = a.data.toList ++ c :: r.data.toList := by
    rw [ByteArray.data_append, ByteArray.data_append, Array.toList_append, Array.toList_append]; simp
  have hi : Go.Lib.indexB (a ++ ⟨#[c]⟩ ++ r) ⟨#[c]⟩ = (a.size : Nat) := by
    show Go.Lib.index (a ++ ⟨#[c]⟩ ++ r).data.toList [c] = _
    rw [el, index_atC c _ _ h, hl]
  have hc := Go.Lib.countB_hit (a ++ ⟨#[c]⟩ ++ r) ⟨#[c]⟩ a.size (by rw [hs]; omega) hi
  have eL : (a ++ ⟨#[c]⟩ ++ r).extract 0 a.size = a := by rw [e1]; exact ext_left _ _
  have eR : (a ++ ⟨#[c]⟩ ++ r).extract (a.size + 1) (a ++ ⟨#[c]⟩ ++ r).size = r := by
    have := ext_right (a ++ (⟨#[c]⟩ : ByteArray)) r
    rw [ByteArray.size_append (a := a), hs] at this
    exact this
  rw [hs, eR] at hc
  unfold piecesB
  rw [hc, Nat.add_comm 1, Go.Lib.splitB_hit _ _ _ _ a.size hi, hs, Nat.add_zero, eL, eR]
end Go.Proofs.YtlglgcmpeabdnaaGreatDoorAi
end

section
/- Contracts: ReadGraph of the program. -/
namespace Go.Proofs.YtlglgcmpeabdnaaGreatDoorAi
open Go Go.RowKit
set_option linter.unusedVariables false
set_option linter.unusedSimpArgs false
set_option maxRecDepth 20000

theorem splitB_size (sep : ByteArray) : ∀ (k : Nat) (s : ByteArray), ∀ x ∈ Go.Lib.splitB sep 0 k s, x.size ≤ s.size
  | 0, s => by
    intro x hx
    rw [Go.Lib.splitB_zero] at hx
    rw [List.mem_singleton.1 hx]; exact Nat.le_refl _
  | k + 1, s => by
    intro x hx
    rw [Go.Lib.splitB] at hx
    split at hx
    · rw [List.mem_singleton.1 hx]; exact Nat.le_refl _
    · rcases List.mem_cons.1 hx with rfl | hx
      · rw [ByteArray.size_extract]; omega
      · have := splitB_size sep k _ x hx
        rw [ByteArray.size_extract] at this
        omega
def pairI (n i j : Int) : Bool := ((decide (0 ≤ i) && decide (i ≤ n - 1)) && (decide (0 ≤ j) && decide (j ≤ n - 1))) && (i != j)
noncomputable def sp_pairI : List AV → Option (AV) := pf (ι := (Int) × (Int) × (Int)) (α := AV) (fun ⟨n, i, j⟩ => 0 ≤ n ∧ n ≤ 5) (fun ⟨n, i, j⟩ => [.int .i64 n, .int .i64 i, .int .i64 j]) (fun ⟨n, i, j⟩ => .bool (pairI n i j))
theorem sp_pairI_eq (n i j : Int) (h : 0 ≤ n ∧ n ≤ 5) : sp_pairI [.int .i64 n, .int .i64 i, .int .i64 j] = some (.bool (pairI n i j)) := by
  unfold sp_pairI
  exact pf_eq (ι := (Int) × (Int) × (Int)) (α := AV) (n, i, j) h (by rintro ⟨n', i', j'⟩ _ e; simp_all [Int.natCast_inj])
theorem q_impl_isPair : QP PP 82 sp_pairI := by
  refine QP_pf (fun i h => ?_) fun i h => ?_
  · obtain ⟨n, i, j⟩ := i; exact ⟨by first | rfl | simp, by first | rfl | simp⟩
  obtain ⟨n, i, j⟩ := i
  replace h : 0 ≤ n ∧ n ≤ 5 := h
  refine P_code (Quiet.q1 q_impl_in Quiet.nil) hmix k_impl_isPair rfl ?_ ?_
  · first | rfl | simp
  show wpc 0 PP _ c_impl_isPair (initSt [.int .i64 n, .int .i64 i, .int .i64 j] .nil) (endP r_impl_isPair (.bool (pairI n i j)))
  have hw : IntKind.wrap .i64 (n - 1) = n - 1 := wrapI64 (by omega) (by omega)
  unfold pairI
  cases h1 : (decide (0 ≤ i) && decide (i ≤ n - 1)) <;> cases h2 : (decide (0 ≤ j) && decide (j ≤ n - 1)) <;> simp -dsimp -implicitDefEqProofs [c_impl_isPair, r_impl_isPair, hw, h1, h2]
theorem q_spec_l01Pair : QP PP 66 sp_pairI := by
  refine QP_pf (fun i h => ?_) fun i h => ?_
  · obtain ⟨n, i, j⟩ := i; exact ⟨by first | rfl | simp, by first | rfl | simp⟩
  obtain ⟨n, i, j⟩ := i
  replace h : 0 ≤ n ∧ n ≤ 5 := h
  refine P_code (Quiet.q1 q_spec_l00In Quiet.nil) hmix k_spec_l01Pair rfl ?_ ?_
  · first | rfl | simp
  show wpc 0 PP _ c_spec_l01Pair (initSt [.int .i64 n, .int .i64 i, .int .i64 j] .nil) (endP r_spec_l01Pair (.bool (pairI n i j)))
  have hw : IntKind.wrap .i64 (n - 1) = n - 1 := wrapI64 (by omega) (by omega)
  unfold pairI
  cases h1 : (decide (0 ≤ i) && decide (i ≤ n - 1)) <;> cases h2 : (decide (0 ≤ j) && decide (j ≤ n - 1)) <;> simp -dsimp -implicitDefEqProofs [c_spec_l01Pair, r_spec_l01Pair, hw, h1, h2]
theorem pairI_in {n i j : Int} (hn : n ≤ 5) (h : pairI n i j = true) : (0 ≤ i ∧ i < 5) ∧ (0 ≤ j ∧ j < 5) ∧ i ≠ j := by
  unfold pairI at h
  simp only [Bool.and_eq_true, decide_eq_true_eq, bne_iff_ne, ne_eq] at h
  refine ⟨⟨by omega, by omega⟩, ⟨by omega, by omega⟩, h.2⟩
theorem bit_small {i j : Int} (h : (0 ≤ i ∧ i < 5) ∧ (0 ≤ j ∧ j < 5) ∧ i ≠ j) : (2 : Nat) ^ bitI i.toNat j.toNat < 1024 := by
  have := bitI_10 (i := i.toNat) (j := j.toNat) (by omega) (by omega) (by omega)
  exact Nat.pow_lt_pow_right (by decide) this
def eA (w : ByteArray) : Int := numV (cutA w dashB)
def eB (w : ByteArray) : Int := numV (cutB w dashB)
def edgeOk (n : Int) (w : ByteArray) : Bool := (numB (cutA w dashB) && numB (cutB w dashB)) && pairI n (eA w) (eB w)
def goI (n : Int) : List ByteArray → Nat → Option Nat
  | [], m => some m
  | w :: r, m => if edgeOk n w = true then goI n r (m ||| 2 ^ bitI (eA w).toNat (eB w).toNat) else none
def wdI (s : ByteArray) : List ByteArray := piecesB (cpA s graphB) sepB
def hdI (s : ByteArray) : ByteArray := (wdI s)[0]?.getD noB
def nI (s : ByteArray) : Int := numV (hdI s)
def okI (s : ByteArray) : Bool := (cpI s graphB && numB (hdI s)) && (decide (0 ≤ nI s) && decide (nI s ≤ 5))
def rgO (s : ByteArray) : Option (Nat × Nat) := if okI s = true then (goI (nI s) ((wdI s).drop 1) 0).bind fun m => if (grT m (nI s).toNat == s) = true then some ((nI s).toNat, m) else none else none
def rgA : Option (Nat × Nat) → AV
  | some (n, m) => .tup [.agg [.int .i64 n, .int .u32 m], .int .i64 0]
  | none => .tup [.agg [.int .i64 0, .int .u32 0], .int .i64 5]
@[simp] theorem rgA_lt (o : Option (Nat × Nat)) (n : Nat) : (rgA o).lt n = true := by
  cases o with
  | none => rfl
  | some p => rfl
noncomputable def sp_readGr : List AV → Option (AV) := pf (ι := (ByteArray)) (α := AV) (fun s => s.size ≤ 1048576) (fun s => [.str s]) (fun s => rgA (rgO s))
theorem sp_readGr_eq (s : ByteArray) (h : s.size ≤ 1048576) : sp_readGr [.str s] = some (rgA (rgO s)) := by
  unfold sp_readGr
  exact pf_eq (ι := (ByteArray)) (α := AV) s h (by rintro s' _ e; simp_all [Int.natCast_inj])
set_option maxHeartbeats 2000000 in
theorem q_impl_ReadGraph : QP PP 33 sp_readGr := by
  refine QP_pf (fun s h => ?_) fun s h => ?_
  · exact ⟨by first | rfl | simp, by first | rfl | simp⟩
  replace h : s.size ≤ 1048576 := h
  refine P_code (Quiet.q1 q_strings_CutPrefix (Quiet.q1 q_impl_number (Quiet.q1 q_impl_sizeOk (Quiet.q1 q_strings_Cut (Quiet.q1 q_impl_isPair (Quiet.q1 q_impl_bit (Quiet.q1 q_impl_Graph_text (Quiet.e1 n_strings_Split.toE Quiet.nil)))))))) hmix k_impl_ReadGraph rfl ?_ ?_
  · first | rfl | simp
  show wpc 0 PP _ c_impl_ReadGraph (initSt [.str s] .nil) (endP r_impl_ReadGraph (rgA (rgO s)))
  have hcp : sp_cutP [.str s, .str ⟨#[103, 114, 97, 112, 104, 32]⟩] = some (.tup [.str (cpA s graphB), .bool (cpI s graphB)]) := sp_cutP_eq s graphB h
  have hcs := cpA_size s graphB
  have hsp : sp_pieces [.str (cpA s graphB), .str ⟨#[32]⟩] = some (.ref 0 1 0 (wdI s).length .tight, [some (flatA (strsA (wdI s)))]) := sp_pieces_eq (cpA s graphB) sepB ⟨by omega, rfl⟩
  rw [flat_strs] at hsp
  have hlen : 0 < (wdI s).length := by unfold wdI; rw [pieces_len _ _ (by decide)]; omega
  have hleni : (0 : Int) < (wdI s).length := by omega
  have hmost : (wdI s).length ≤ 1048577 := by
    unfold wdI; rw [pieces_len _ _ (by decide)]
    have := count_le (cpA s graphB) sepB (by decide)
    omega
  have e0 : (wdI s)[0]'hlen = hdI s := by unfold hdI; rw [List.getElem?_eq_getElem hlen]; rfl
  have hsz : ∀ w ∈ wdI s, w.size ≤ 1048576 := fun w hw => by
    have := splitB_size sepB _ _ w hw
    omega
  have hz0 : (hdI s).size ≤ 1048576 := by rw [← e0]; exact hsz _ (List.getElem_mem hlen)
  have hnum := sp_numI_eq (hdI s) hz0
  unfold rgO
  generalize hW : wdI s = W at *
  have hso := sp_sizeOk_eq (numV (hdI s))
  have l1 : 1 ≤ W.length := by omega
  have q0 : W[0]? = some (hdI s) := by rw [List.getElem?_eq_getElem hlen, e0]
  have r3 : ltL 3 (strsA W) = true := by rw [← flat_strs]; simp
  have rr0 : renL (fun b => b) (strsA W) = strsA W := by rw [← flat_strs]; simp
  have rr : renL (shiftN 1) (strsA W) = strsA W := by rw [← flat_strs]; simp
  cases h1 : cpI s graphB <;> rw [h1] at hcp
  · have : okI s = false := by unfold okI; rw [h1]; rfl
    rw [this]
    simp -dsimp -implicitDefEqProofs [c_impl_ReadGraph, r_impl_ReadGraph, hcp, hsp, rr, hlen, hleni, e0, q0, hnum, rgA]
  cases h2 : numB (hdI s) <;> rw [h2] at hnum
  · have : okI s = false := by unfold okI; rw [h1, h2]; rfl
    rw [this]
    simp -dsimp -implicitDefEqProofs [c_impl_ReadGraph, r_impl_ReadGraph, hcp, hsp, rr, hlen, hleni, e0, q0, hnum, rgA]
  cases h3 : (decide (0 ≤ numV (hdI s)) && decide (numV (hdI s) ≤ 5)) <;> rw [h3] at hso
  · have : okI s = false := by unfold okI nI; rw [h1, h2, h3]; rfl
    rw [this]
    simp -dsimp -implicitDefEqProofs [c_impl_ReadGraph, r_impl_ReadGraph, hcp, hsp, rr, hlen, hleni, e0, q0, hnum, hso, h3, rgA]
  have : okI s = true := by unfold okI nI; rw [h1, h2, h3]; rfl
  rw [if_pos this]
  simp only [Bool.and_eq_true, decide_eq_true_eq] at h3
  obtain ⟨n, hn⟩ := Int.eq_ofNat_of_zero_le h3.1
  have hnI : nI s = (n : Int) := hn
  have hn5 : n ≤ 5 := by omega
  rw [hnI]
  rw [hn] at hnum hso
  simp -dsimp -implicitDefEqProofs [c_impl_ReadGraph, r_impl_ReadGraph, hcp, hsp, rr, hlen, hleni, e0, q0, hnum, hso, l1]
  refine wpLoop_st (fun (q : Nat × Nat) => ⟨tl [(0, .str s), (2, .ptr 0 0), (7, .int .i64 n), (9, .ptr 2 0), (48, .ref 1 1 1 (W.length - 1) .tight), (49, .int .i64 ((W.length - 1 : Nat) : Int)), (50, .int .i64 q.1)], ⟨[some [.int .i64 0, .int .u32 0], some (strsA W), some [.int .i64 n, .int .u32 q.2]]⟩⟩) (fun q => q.1 ≤ W.length - 1 ∧ q.2 < 1024 ∧ goI n (W.drop (1 + q.1)) q.2 = goI n W.tail 0) (fun q => W.length - 1 - q.1) (0, 0) ⟨by simp, by simp, by simp⟩ (Sub.keep (by simp) (by simp [hsub, rr0, r3]) (by simp)) ?_
  rintro ⟨i, m⟩ ⟨hi, hm, hg⟩
  simp only at hi hm hg
  simp -dsimp -implicitDefEqProofs
  refine brW_of (fun h => ?_) (fun h => ?_) <;> simp only [decide_eq_true_eq, decide_eq_false_iff_not] at h
  · have hx1 : 1 + i < W.length := by omega
    have hx2 : i < W.length - 1 := by omega
    have hx3 : (i : Int) < ((W.length - 1 : Nat) : Int) := by omega
    have hw := wrapNat (i := i) (by omega)
    have hwsz := hsz _ (List.getElem_mem hx1)
    rw [drop_cons hx1, goI] at hg
    have q1 : W[1 + i]? = some W[1 + i] := List.getElem?_eq_getElem hx1
    generalize hww : W[1 + i] = w at *
    have hct : sp_cutS [.str w, .str ⟨#[45]⟩] = some (.tup [.str (cutA w dashB), .str (cutB w dashB), .bool (cutI w dashB)]) := sp_cutS_eq w dashB hwsz
    have hcz := cut_sizes w dashB
    have n1 : sp_numI [.str (cutA w dashB)] = some (.tup [.int .i64 (eA w), .bool (numB (cutA w dashB))]) := sp_numI_eq _ (by omega)
    have n2 : sp_numI [.str (cutB w dashB)] = some (.tup [.int .i64 (eB w), .bool (numB (cutB w dashB))]) := sp_numI_eq _ (by omega)
    have hpr := sp_pairI_eq n (eA w) (eB w) (by omega)
    cases k1 : numB (cutA w dashB) <;> rw [k1] at n1
    · have ke : edgeOk n w = false := by unfold edgeOk; rw [k1]; rfl
      rw [ke] at hg
      simp only [Bool.false_eq_true, if_false] at hg
      rw [← hg]
      simp -dsimp -implicitDefEqProofs [hx1, hx2, hx3, hww, q1, hct, n1, n2, rgA]
    cases k2 : numB (cutB w dashB) <;> rw [k2] at n2
    · have ke : edgeOk n w = false := by unfold edgeOk; rw [k1, k2]; rfl
      rw [ke] at hg
      simp only [Bool.false_eq_true, if_false] at hg
      rw [← hg]
      simp -dsimp -implicitDefEqProofs [hx1, hx2, hx3, hww, q1, hct, n1, n2, rgA]
    cases k3 : pairI n (eA w) (eB w) <;> rw [k3] at hpr
    · have ke : edgeOk n w = false := by unfold edgeOk; rw [k1, k2, k3]; rfl
      rw [ke] at hg
      simp only [Bool.false_eq_true, if_false] at hg
      rw [← hg]
      simp -dsimp -implicitDefEqProofs [hx1, hx2, hx3, hww, q1, hct, n1, n2, hpr, rgA]
    have ke : edgeOk n w = true := by unfold edgeOk; rw [k1, k2, k3]; rfl
    rw [if_pos ke] at hg
    have hin := pairI_in (by omega) k3
    have hbt := sp_bit_eq (eA w) (eB w) ⟨by omega, by omega⟩
    have hsm := bit_small hin
    have ho := or32 (a := m) (b := 2 ^ bitI (eA w).toNat (eB w).toNat) (by omega) (by omega)
    have hcast : ((2 ^ bitI (eA w).toNat (eB w).toNat : Nat) : Int) = 2 ^ bitI (eA w).toNat (eB w).toNat := by simp
    rw [hcast] at ho
    have hlt : m ||| 2 ^ bitI (eA w).toNat (eB w).toNat < 1024 := Nat.or_lt_two_pow (n := 10) hm hsm
    generalize hE : (m ||| 2 ^ bitI (eA w).toNat (eB w).toNat) = m2 at *
    generalize (2 : Int) ^ bitI (eA w).toNat (eB w).toNat = bt at *
    have hg2 : goI n (W.drop (1 + (i + 1))) m2 = goI n W.tail 0 := by rw [show 1 + (i + 1) = 1 + i + 1 by omega]; exact hg
    simp -dsimp -implicitDefEqProofs [hx1, hx2, hx3, hww, q1, hct, n1, n2, hpr, hbt, ho, hw]
    exact .mk (i + 1, m2) ⟨by simp only; omega, by simp only; omega, hg2⟩ (by simp only; omega) (Sub.keep (by simp) (by simp [hsub, rr0, r3]; simpa using ho) (by simp [hw]))
  · have hi' : 1 + i = W.length := by omega
    rw [hi', List.drop_length, goI] at hg
    rw [← hg, Option.bind_some]
    have ht := sp_graphTx_eq n m ⟨hn5, by omega, by omega⟩
    cases hq : (grT m n == s) with
    | true =>
      have hq' : (grT m n != s) = false := by unfold bne; rw [hq]; rfl
      simp -dsimp -implicitDefEqProofs [ht, hq', rgA]
    | false =>
      have hq' : (grT m n != s) = true := by unfold bne; rw [hq]; rfl
      simp -dsimp -implicitDefEqProofs [ht, hq', rgA]
end Go.Proofs.YtlglgcmpeabdnaaGreatDoorAi
end

section
/- Contracts: ReadGraph of the reference. -/
namespace Go.Proofs.YtlglgcmpeabdnaaGreatDoorAi
open Go Go.RowKit
set_option linter.unusedVariables false
set_option linter.unusedSimpArgs false
set_option maxRecDepth 20000

def wA (w : ByteArray) : ByteArray := (splitL w 45)[0]?.getD noB
def wB (w : ByteArray) : ByteArray := (splitL w 45)[1]?.getD noB
def edgeS (n : Int) (w : ByteArray) : Bool := decide ((splitL w 45).length = 2) && ((l01B (wA w) && l01B (wB w)) && pairI n (l01V (wA w)) (l01V (wB w)))
def goS (n : Int) : List ByteArray → Nat → Option Nat
  | [], m => some m
  | w :: r, m => if edgeS n w = true then goS n r (m ||| 2 ^ bitI (l01V (wA w)).toNat (l01V (wB w)).toNat) else none
def gword : ByteArray := ⟨#[103, 114, 97, 112, 104]⟩
def h0S (s : ByteArray) : ByteArray := (splitL s 32)[0]?.getD noB
def h1S (s : ByteArray) : ByteArray := (splitL s 32)[1]?.getD noB
def nS (s : ByteArray) : Int := l01V (h1S s)
def okS (s : ByteArray) : Bool := (decide (2 ≤ (splitL s 32).length) && (h0S s == gword)) && (l01B (h1S s) && decide (nS s ≤ 5))
def rsO (s : ByteArray) : Option (Nat × Nat) := if okS s = true then (goS (nS s) ((splitL s 32).drop 2) 0).bind fun m => if (graphT (nS s) m == s) = true then some ((nS s).toNat, m) else none else none
noncomputable def sp_readGrS : List AV → Option (AV) := pf (ι := (ByteArray)) (α := AV) (fun s => s.size ≤ 1048576) (fun s => [.str s]) (fun s => rgA (rsO s))
theorem sp_readGrS_eq (s : ByteArray) (h : s.size ≤ 1048576) : sp_readGrS [.str s] = some (rgA (rsO s)) := by
  unfold sp_readGrS
  exact pf_eq (ι := (ByteArray)) (α := AV) s h (by rintro s' _ e; simp_all [Int.natCast_inj])
set_option maxHeartbeats 4000000 in
theorem q_spec_ReadGraph : QP PP 27 sp_readGrS := by
  refine QP_pf (fun s h => ?_) fun s h => ?_
  · exact ⟨by first | rfl | simp, by first | rfl | simp⟩
  replace h : s.size ≤ 1048576 := h
  refine P_code (Quiet.q1 q_spec_l01Number (Quiet.q1 q_spec_l01Pair (Quiet.q1 q_spec_l01Bit (Quiet.q1 q_spec_GraphText (Quiet.e1 n_spec_l01Split.toE Quiet.nil))))) hmix k_spec_ReadGraph rfl ?_ ?_
  · first | rfl | simp
  show wpc 0 PP _ c_spec_ReadGraph (initSt [.str s] .nil) (endP r_spec_ReadGraph (rgA (rsO s)))
  have hsp := sp_split_eq s 32 ⟨h, by omega, by omega⟩
  rw [flat_strs] at hsp
  have hne : splitL s 32 ≠ [] := (splF_len s 32 _ _ _ _).2
  have hlenm := (splF_len s 32 s.size 0 0 []).1
  have hlen : 0 < (splitL s 32).length := List.length_pos_iff.2 hne
  have hmost : (splitL s 32).length ≤ 1048577 := by
    have : (splitL s 32).length ≤ 0 + s.size + 1 := hlenm
    omega
  have hleni : (0 : Int) < (splitL s 32).length := by omega
  have e0 : (splitL s 32)[0]'hlen = h0S s := by unfold h0S; rw [List.getElem?_eq_getElem hlen]; rfl
  have hsz : ∀ w ∈ splitL s 32, w.size ≤ 1048576 := fun w hw => by have := splitL_size s 32 w hw; omega
  have e1 : ∀ hl : 1 < (splitL s 32).length, (splitL s 32)[1]'hl = h1S s := fun hl => by unfold h1S; rw [List.getElem?_eq_getElem hl]; rfl
  unfold rsO
  by_cases h2 : 2 ≤ (splitL s 32).length
  rotate_left
  · have : okS s = false := by unfold okS; rw [decide_eq_false h2]; rfl
    rw [this]
    generalize splitL s 32 = W at *
    have rr : renL (shiftN 1) (strsA W) = strsA W := by rw [← flat_strs]; simp
    have h2' : (W.length : Int) < 2 := by omega
    have h2n : W.length < 2 := by omega
    simp -dsimp -implicitDefEqProofs [c_spec_ReadGraph, r_spec_ReadGraph, hsp, rr, h2', h2n, rgA]
  have hl1 : 1 < (splitL s 32).length := by omega
  have e1' := e1 hl1
  have hz1 : (h1S s).size ≤ 1048576 := by rw [← e1']; exact hsz _ (List.getElem_mem hl1)
  have hnum := sp_l01Num_eq (h1S s) hz1
  have hpos := l01V_in (h1S s)
  have hgw : (h0S s != (⟨#[103, 114, 97, 112, 104]⟩ : ByteArray)) = !(h0S s == gword) := rfl
  have okE : okS s = ((h0S s == gword) && (l01B (h1S s) && decide (nS s ≤ 5))) := by unfold okS; rw [decide_eq_true h2, Bool.true_and]
  rw [okE]
  generalize hW : splitL s 32 = W at *
  have r3 : ltL 3 (strsA W) = true := by rw [← flat_strs]; simp
  have rr0 : renL (fun b => b) (strsA W) = strsA W := by rw [← flat_strs]; simp
  have rr : renL (shiftN 1) (strsA W) = strsA W := by rw [← flat_strs]; simp
  have h2' : ¬ (W.length : Int) < 2 := by omega
  have h2n : ¬ W.length < 2 := by omega
  have q0 : W[0]? = some (h0S s) := by rw [List.getElem?_eq_getElem hlen, e0]
  have q1 : W[1]? = some (h1S s) := by rw [List.getElem?_eq_getElem hl1, e1']
  have hl1i : (1 : Int) < W.length := by omega
  cases k1 : (h0S s == gword) <;> rw [k1] at hgw
  · simp -dsimp -implicitDefEqProofs [c_spec_ReadGraph, r_spec_ReadGraph, hsp, rr, h2', h2n, hlen, hleni, e0, q0, hgw, rgA]
  cases k2 : l01B (h1S s) <;> rw [k2] at hnum
  · simp -dsimp -implicitDefEqProofs [c_spec_ReadGraph, r_spec_ReadGraph, hsp, rr, h2', h2n, hlen, hleni, hl1, hl1i, e0, e1', q0, q1, hgw, hnum, rgA]
  by_cases k3 : nS s ≤ 5
  rotate_left
  · have k3' : 5 < l01V (h1S s) := by unfold nS at k3; omega
    simp -dsimp -implicitDefEqProofs [c_spec_ReadGraph, r_spec_ReadGraph, hsp, rr, h2', h2n, hlen, hleni, hl1, hl1i, e0, e1', q0, q1, hgw, hnum, k3, k3', rgA]
  have k3' : ¬ 5 < l01V (h1S s) := by unfold nS at k3; omega
  obtain ⟨n, hn⟩ := Int.eq_ofNat_of_zero_le hpos.1
  have hnS : nS s = (n : Int) := hn
  have hn5 : n ≤ 5 := by omega
  rw [hnS] at k3 ⊢
  rw [hn] at hnum k3'
  simp -dsimp -implicitDefEqProofs [c_spec_ReadGraph, r_spec_ReadGraph, hsp, rr, h2', h2n, hlen, hleni, hl1, hl1i, e0, e1', q0, q1, hgw, hnum, k3, k3', hn5]
  refine wpLoop_st (fun (q : Nat × Nat) => ⟨tl [(0, .str s), (2, .ptr 0 0), (4, .ref 1 1 0 W.length .full), (5, .int .i64 n), (7, .ptr 2 0), (8, .int .i64 ((q.1 : Int) + 2))], ⟨[some [.int .i64 0, .int .u32 0], some (strsA W), some [.int .i64 n, .int .u32 q.2]]⟩⟩) (fun q => q.1 + 2 ≤ W.length ∧ q.2 < 1024 ∧ goS n (W.drop (q.1 + 2)) q.2 = goS n (W.drop 2) 0) (fun q => W.length - q.1) (0, 0) ⟨by simp only; omega, by simp, rfl⟩ (Sub.keep (by simp) (by simp [hsub, rr0, r3]) (by simp)) ?_
  rintro ⟨i, m⟩ ⟨hi, hm, hg⟩
  simp only at hi hm hg
  simp -dsimp -implicitDefEqProofs
  refine brW_of (fun h => ?_) (fun h => ?_) <;> simp only [decide_eq_true_eq, decide_eq_false_iff_not] at h
  · have hx1 : i + 2 < W.length := by omega
    have hx3 : (i : Int) + 2 < W.length := by omega
    have hx4 : (0 : Int) ≤ (i : Int) + 2 := by omega
    have hx5 : ((i : Int) + 2).toNat = i + 2 := by omega
    have hw : IntKind.wrap .i64 ((i : Int) + 2 + 1) = (i : Int) + 2 + 1 := wrapI64 (by omega) (by omega)
    have hwsz := hsz _ (List.getElem_mem hx1)
    rw [drop_cons hx1, goS] at hg
    have q2 : W[i + 2]? = some W[i + 2] := List.getElem?_eq_getElem hx1
    generalize hww : W[i + 2] = w at *
    have hs2 := sp_split_eq w 45 ⟨hwsz, by omega, by omega⟩
    rw [flat_strs] at hs2
    have hz2 := splitL_size w 45
    have f0 : wA w = (splitL w 45)[0]?.getD noB := rfl
    have f1 : wB w = (splitL w 45)[1]?.getD noB := rfl
    have ke : edgeS n w = (decide ((splitL w 45).length = 2) && ((l01B (wA w) && l01B (wB w)) && pairI n (l01V (wA w)) (l01V (wB w)))) := rfl
    generalize splitL w 45 = E at *
    have rrE : renL (shiftN 3) (strsA E) = strsA E := by rw [← flat_strs]; simp
    by_cases k4 : E.length = 2
    rotate_left
    · have k4' : ((E.length : Int) != 2) = true := by simp; omega
      rw [decide_eq_false k4, Bool.false_and] at ke
      rw [ke] at hg
      simp only [Bool.false_eq_true, if_false] at hg
      rw [← hg]
      simp -dsimp -implicitDefEqProofs [hx1, hx3, hx4, hx5, hww, q2, hs2, rrE, k4', rgA]
    have k4' : ((E.length : Int) != 2) = false := by simp; omega
    rw [decide_eq_true k4, Bool.true_and] at ke
    have hE0 : 0 < E.length := by omega
    have hE1 : 1 < E.length := by omega
    have hE0i : (0 : Int) < E.length := by omega
    have hE1i : (1 : Int) < E.length := by omega
    have g0 : E[0] = wA w := by rw [f0, List.getElem?_eq_getElem hE0]; rfl
    have g1 : E[1] = wB w := by rw [f1, List.getElem?_eq_getElem hE1]; rfl
    have p0 : E[0]? = some (wA w) := by rw [List.getElem?_eq_getElem hE0, g0]
    have p1 : E[1]? = some (wB w) := by rw [List.getElem?_eq_getElem hE1, g1]
    have zA := hz2 _ (List.getElem_mem hE0)
    have zB := hz2 _ (List.getElem_mem hE1)
    rw [g0] at zA
    rw [g1] at zB
    have n1 := sp_l01Num_eq (wA w) (by omega)
    have n2 := sp_l01Num_eq (wB w) (by omega)
    have hpr := sp_pairI_eq n (l01V (wA w)) (l01V (wB w)) (by omega)
    cases k5 : l01B (wA w) <;> rw [k5] at n1 ke
    · rw [Bool.false_and, Bool.false_and] at ke
      rw [ke] at hg
      simp only [Bool.false_eq_true, if_false] at hg
      rw [← hg]
      simp -dsimp -implicitDefEqProofs [hx1, hx3, hx4, hx5, hww, q2, hs2, rrE, k4', hE0, hE1, hE0i, hE1i, g0, g1, p0, p1, n1, n2, rgA]
    cases k6 : l01B (wB w) <;> rw [k6] at n2 ke
    · rw [Bool.and_false, Bool.false_and] at ke
      rw [ke] at hg
      simp only [Bool.false_eq_true, if_false] at hg
      rw [← hg]
      simp -dsimp -implicitDefEqProofs [hx1, hx3, hx4, hx5, hww, q2, hs2, rrE, k4', hE0, hE1, hE0i, hE1i, g0, g1, p0, p1, n1, n2, rgA]
    cases k7 : pairI n (l01V (wA w)) (l01V (wB w)) <;> rw [k7] at hpr ke
    · rw [Bool.and_false] at ke
      rw [ke] at hg
      simp only [Bool.false_eq_true, if_false] at hg
      rw [← hg]
      simp -dsimp -implicitDefEqProofs [hx1, hx3, hx4, hx5, hww, q2, hs2, rrE, k4', hE0, hE1, hE0i, hE1i, g0, g1, p0, p1, n1, n2, hpr, rgA]
    rw [if_pos (by rw [ke]; rfl)] at hg
    have hin := pairI_in (by omega) k7
    have hbt := sp_bit_eq (l01V (wA w)) (l01V (wB w)) ⟨by omega, by omega⟩
    have hsm := bit_small hin
    have ho := or32 (a := m) (b := 2 ^ bitI (l01V (wA w)).toNat (l01V (wB w)).toNat) (by omega) (by omega)
    have hcast : ((2 ^ bitI (l01V (wA w)).toNat (l01V (wB w)).toNat : Nat) : Int) = 2 ^ bitI (l01V (wA w)).toNat (l01V (wB w)).toNat := by simp
    rw [hcast] at ho
    have hlt : m ||| 2 ^ bitI (l01V (wA w)).toNat (l01V (wB w)).toNat < 1024 := Nat.or_lt_two_pow (n := 10) hm hsm
    generalize hE : (m ||| 2 ^ bitI (l01V (wA w)).toNat (l01V (wB w)).toNat) = m2 at *
    generalize (2 : Int) ^ bitI (l01V (wA w)).toNat (l01V (wB w)).toNat = bt at *
    have hg2 : goS n (W.drop (i + 1 + 2)) m2 = goS n (W.drop 2) 0 := by rw [show i + 1 + 2 = i + 2 + 1 by omega]; exact hg
    simp -dsimp -implicitDefEqProofs [hx1, hx3, hx4, hx5, hww, q2, hs2, rrE, k4', hE0, hE1, hE0i, hE1i, g0, g1, p0, p1, n1, n2, hpr, hbt, ho, hw]
    exact .mk (i + 1, m2) ⟨by simp only; omega, by simp only; omega, hg2⟩ (by simp only; omega) (Sub.keep (by simp) (by simp [hsub, rr0, r3]; simpa using ho) (by simp [hw]; omega))
  · have hi' : i + 2 = W.length := by omega
    rw [hi', List.drop_length, goS] at hg
    rw [← hg, Option.bind_some]
    have ht := sp_graphText_eq n m ⟨by omega, by omega⟩
    cases hq : (graphT n m == s) with
    | true =>
      have hq' : (graphT n m != s) = false := by unfold bne; rw [hq]; rfl
      simp -dsimp -implicitDefEqProofs [ht, hq', rgA]
    | false =>
      have hq' : (graphT n m != s) = true := by unfold bne; rw [hq]; rfl
      simp -dsimp -implicitDefEqProofs [ht, hq', rgA]
end Go.Proofs.YtlglgcmpeabdnaaGreatDoorAi
end

section
/- Plain law and law: ReadGraph. -/
namespace Go.Proofs.YtlglgcmpeabdnaaGreatDoorAi
open Go Go.RowKit
set_option linter.unusedVariables false
set_option linter.unusedSimpArgs false
set_option maxRecDepth 20000

def edgeW (x : Fr) : ByteArray := decB x.p ++ dashB ++ decB x.q
def tailT : List Fr → ByteArray
  | [] => noB
  | x :: L => sepB ++ edgeW x ++ tailT L
theorem app_noB (a : ByteArray) : a ++ noB = a := by apply ByteArray.ext; simp [noB]
theorem edT_tail : ∀ (L : List Fr) (w : ByteArray), edT w L = w ++ tailT L
  | [], w => by rw [tailT, app_noB]; rfl
  | x :: L, w => by
    show edT (w ++ edgeT x.p x.q) L = _
    rw [edT_tail L, tailT]
    unfold edgeT edgeW
    simp only [ByteArray.append_assoc]
theorem decB_bytes {n : Int} (h : 0 ≤ n) : ∀ b ∈ (decB n).data.toList, 48 ≤ b.toNat ∧ b.toNat ≤ 57 := by
  intro b hb
  have e : (decB n).data.toList = Go.Lib.itoa n := by simp [decB]
  rw [e] at hb
  unfold Go.Lib.itoa at hb
  rw [if_neg (by omega)] at hb
  exact decD_dig _ b hb
theorem decB_lacks {n : Int} (h : 0 ≤ n) {c : UInt8} (hc : c.toNat < 48) : lacks (decB n) c := by
  intro b hb e
  subst e
  have := (decB_bytes h b hb).1
  omega
theorem edgeW_lacks {x : Fr} (hp : 0 ≤ x.p) (hq : 0 ≤ x.q) : lacks (edgeW x) 32 := by
  intro b hb
  unfold edgeW at hb
  rw [ByteArray.data_append, ByteArray.data_append, Array.toList_append, Array.toList_append] at hb
  rcases List.mem_append.1 hb with hb | hb
  · rcases List.mem_append.1 hb with hb | hb
    · exact decB_lacks hp (c := 32) (by decide) b hb
    · have : b = 45 := by simpa [dashB] using hb
      subst this; decide
  · exact decB_lacks hq (c := 32) (by decide) b hb
theorem pieces_tail {Sp : ByteArray → List ByteArray} (hm : ∀ a, lacks a 32 → Sp a = [a]) (hh : ∀ a r, lacks a 32 → Sp (a ++ ⟨#[32]⟩ ++ r) = a :: Sp r) : ∀ (L : List Fr) (A : ByteArray), lacks A 32 → (∀ x ∈ L, lacks (edgeW x) 32) → Sp (A ++ tailT L) = A :: L.map edgeW
  | [], A, hA, _ => by rw [tailT, app_noB]; exact hm A hA
  | x :: L, A, hA, hL => by
    have e : A ++ tailT (x :: L) = A ++ ⟨#[32]⟩ ++ (edgeW x ++ tailT L) := by
      rw [tailT]; unfold sepB; simp only [ByteArray.append_assoc]
    rw [e, hh A _ hA, pieces_tail hm hh L (edgeW x) (hL x (List.mem_cons_self ..)) fun y hy => hL y (List.mem_cons_of_mem _ hy)]
    rfl
theorem l01_dec (n : Int) (h0 : 0 ≤ n) (h1 : n < 1000000000) : l01V (decB n) = n ∧ l01B (decB n) = true := by
  have h := wh_dec n h0 (by omega)
  unfold whV whB at h
  have hf : (decB n == billB) = false := by
    rw [ba_eq]
    refine decide_eq_false fun e => ?_
    have h2 := (num_dec n (by omega) (by omega)).1
    have h3 := (num_dec 1000000000 (by omega) (by omega)).1
    rw [decB_bill] at h3
    rw [e, h3] at h2
    omega
  rw [hf] at h
  simpa using h
/-- The pairs of a graph: the lesser vertex ahead. -/
theorem pairsE_lt (e : Int) : ∀ (j : Nat), ∀ x ∈ pairsE e j, 0 ≤ x.p ∧ x.p < x.q ∧ x.q < j
  | 0 => by intro x hx; cases hx
  | j + 1 => by
    intro x hx
    rw [pairsE] at hx
    rcases List.mem_append.1 hx with hx | hx
    · have := pairsE_lt e j x hx
      omega
    · unfold prE at hx
      obtain ⟨i, hi, rfl⟩ := List.mem_map.1 hx
      have := List.mem_range.1 (List.mem_filter.1 hi).1
      simp only
      omega
def orF (a : Nat) (L : List Fr) : Nat := L.foldl (fun a x => a ||| 2 ^ bitI x.p.toNat x.q.toNat) a
theorem orF_all : (∀ m : Fin 1, orF 0 (pairsE (m.val : Int) 0) = m.val) ∧ (∀ m : Fin 1, orF 0 (pairsE (m.val : Int) 1) = m.val) ∧ (∀ m : Fin 2, orF 0 (pairsE (m.val : Int) 2) = m.val) ∧ (∀ m : Fin 8, orF 0 (pairsE (m.val : Int) 3) = m.val) ∧ (∀ m : Fin 64, orF 0 (pairsE (m.val : Int) 4) = m.val) ∧ (∀ m : Fin 1024, orF 0 (pairsE (m.val : Int) 5) = m.val) := by decide +kernel
theorem orF_pairs {n m : Nat} (h : graphOk n m = true) : orF 0 (pairsE m n) = m := by
  have hn := graphOk_in h
  unfold graphOk at h
  have h2 := (of_decide_eq_true h).2
  have hn' : n = 0 ∨ n = 1 ∨ n = 2 ∨ n = 3 ∨ n = 4 ∨ n = 5 := by omega
  obtain ⟨a0, a1, a2, a3, a4, a5⟩ := orF_all
  rcases hn' with rfl | rfl | rfl | rfl | rfl | rfl
  · exact a0 ⟨m, by have := h2; simp [pairsI] at this; omega⟩
  · exact a1 ⟨m, by have := h2; simp [pairsI] at this; omega⟩
  · exact a2 ⟨m, by have := h2; rw [show pairsI ((2 : Nat) : Int) = 1 from pI2] at this; simp at this; omega⟩
  · exact a3 ⟨m, by have := h2; rw [show pairsI ((3 : Nat) : Int) = 3 from pI3] at this; simp at this; omega⟩
  · exact a4 ⟨m, by have := h2; rw [show pairsI ((4 : Nat) : Int) = 6 from pI4] at this; simp at this; omega⟩
  · exact a5 ⟨m, by have := h2; rw [show pairsI ((5 : Nat) : Int) = 10 from pI5] at this; simp at this; omega⟩
theorem edge_impl {n : Nat} (hn : n ≤ 5) {x : Fr} (h : 0 ≤ x.p ∧ x.p < x.q ∧ x.q < n) : edgeOk n (edgeW x) = true ∧ eA (edgeW x) = x.p ∧ eB (edgeW x) = x.q := by
  have hl : ∀ k, (decB k).data.toList = Go.Lib.itoa k := fun k => by simp [decB]
  have el : (edgeW x).data.toList = (decB x.p).data.toList ++ 45 :: (decB x.q).data.toList := by
    unfold edgeW
    rw [ByteArray.data_append, ByteArray.data_append, Array.toList_append, Array.toList_append]
    simp [dashB]
  have hc : Go.Lib.cut (edgeW x).data.toList dashB.data.toList = ((decB x.p).data.toList, (decB x.q).data.toList, true) := by
    unfold Go.Lib.cut
    have hi : Go.Lib.index (edgeW x).data.toList dashB.data.toList = ((decB x.p).data.toList).length := by
      rw [el]; exact index_atC 45 _ _ (decB_lacks h.1 (c := 45) (by decide))
    rw [hi, if_pos (by omega), el]
    have hs : dashB.data.toList.length = 1 := rfl
    rw [hs, Int.toNat_natCast]
    generalize (decB x.p).data.toList = la
    generalize (decB x.q).data.toList = lb
    simp
  have cA : cutA (edgeW x) dashB = decB x.p := by unfold cutA; rw [hc]
  have cB : cutB (edgeW x) dashB = decB x.q := by unfold cutB; rw [hc]
  have n1 := num_dec x.p (by omega) (by omega)
  have n2 := num_dec x.q (by omega) (by omega)
  have eAx : eA (edgeW x) = x.p := by unfold eA; rw [cA, n1.1]
  have eBx : eB (edgeW x) = x.q := by unfold eB; rw [cB, n2.1]
  refine ⟨?_, eAx, eBx⟩
  unfold edgeOk
  rw [eAx, eBx, cA, cB, n1.2, n2.2]
  unfold pairI
  simp; omega
theorem edge_spec {n : Nat} (hn : n ≤ 5) {x : Fr} (h : 0 ≤ x.p ∧ x.p < x.q ∧ x.q < n) : edgeS n (edgeW x) = true ∧ l01V (wA (edgeW x)) = x.p ∧ l01V (wB (edgeW x)) = x.q := by
  have hs : splitL (edgeW x) 45 = [decB x.p, decB x.q] := by
    have h1 := splitL_hit (decB_lacks h.1 (c := 45) (by decide)) (decB x.q)
    have h2 := splitL_miss (decB_lacks (n := x.q) (by omega) (c := 45) (by decide))
    have e45 : (((45 : UInt8).toNat : Nat) : Int) = 45 := rfl
    rw [e45] at h1 h2
    rw [h2] at h1
    exact h1
  have cA : wA (edgeW x) = decB x.p := by unfold wA; rw [hs]; rfl
  have cB : wB (edgeW x) = decB x.q := by unfold wB; rw [hs]; rfl
  have n1 := l01_dec x.p (by omega) (by omega)
  have n2 := l01_dec x.q (by omega) (by omega)
  refine ⟨?_, by rw [cA, n1.1], by rw [cB, n2.1]⟩
  unfold edgeS
  rw [hs, cA, cB, n1.1, n2.1, n1.2, n2.2]
  unfold pairI
  simp; omega
theorem goI_all {n : Nat} (hn : n ≤ 5) : ∀ (L : List Fr) (a : Nat), (∀ x ∈ L, 0 ≤ x.p ∧ x.p < x.q ∧ x.q < n) → goI n (L.map edgeW) a = some (orF a L)
  | [], a, _ => rfl
  | x :: L, a, h => by
    obtain ⟨h1, h2, h3⟩ := edge_impl hn (h x (List.mem_cons_self ..))
    rw [List.map_cons, goI, if_pos h1, h2, h3, goI_all hn L _ fun y hy => h y (List.mem_cons_of_mem _ hy)]
    rfl
theorem goS_all {n : Nat} (hn : n ≤ 5) : ∀ (L : List Fr) (a : Nat), (∀ x ∈ L, 0 ≤ x.p ∧ x.p < x.q ∧ x.q < n) → goS n (L.map edgeW) a = some (orF a L)
  | [], a, _ => rfl
  | x :: L, a, h => by
    obtain ⟨h1, h2, h3⟩ := edge_spec hn (h x (List.mem_cons_self ..))
    rw [List.map_cons, goS, if_pos h1, h2, h3, goS_all hn L _ fun y hy => h y (List.mem_cons_of_mem _ hy)]
    rfl
theorem reads_graph {n m : Nat} (h : graphOk n m = true) : rgO (grT m n) = some (n, m) ∧ rsO (grT m n) = some (n, m) := by
  have hn := graphOk_in h
  have hn5 : n ≤ 5 := by omega
  have hL := pairsE_lt m n
  have hor := orF_pairs h
  have eg : grT m n = graphB ++ (decB n ++ tailT (pairsE m n)) := by
    unfold grT; rw [edT_tail, ByteArray.append_assoc]
  have hlk : ∀ x ∈ pairsE m n, lacks (edgeW x) 32 := fun x hx => edgeW_lacks (by have := hL x hx; omega) (by have := hL x hx; omega)
  have hd : lacks (decB (n : Int)) 32 := decB_lacks (by omega) (by decide)
  have hgr : graphT n m = grT m n := by unfold graphT; rw [if_pos h, Int.toNat_natCast]
  have e32 : (((32 : UInt8).toNat : Nat) : Int) = 32 := rfl
  generalize hs : grT m n = s at *
  constructor
  · have el : s.data.toList = graphB.data.toList ++ (decB n ++ tailT (pairsE m n)).data.toList := by
      rw [eg, ByteArray.data_append, Array.toList_append]
    have hI : cpI s graphB = true := by
      unfold cpI Go.Lib.hasPrefix
      rw [el]; exact List.isPrefixOf_iff_prefix.2 (List.prefix_append _ _)
    have hA : cpA s graphB = decB n ++ tailT (pairsE m n) := by
      unfold cpA Go.Lib.trimPrefix
      have : Go.Lib.hasPrefix s.data.toList graphB.data.toList = true := hI
      rw [if_pos this, el, List.drop_left]
    have hW : wdI s = decB n :: (pairsE m n).map edgeW := by
      unfold wdI
      rw [hA]
      exact pieces_tail (Sp := fun s => piecesB s sepB) (fun a ha => pieces_miss ha) (fun a r ha => pieces_hit ha r) _ _ hd hlk
    have hh : hdI s = decB n := by unfold hdI; rw [hW]; rfl
    have hnum := num_dec n (by omega) (by omega)
    have hnI : nI s = (n : Int) := by unfold nI; rw [hh, hnum.1]
    have hok : okI s = true := by
      unfold okI
      rw [hI, hnI, hh, hnum.2]
      simp; omega
    unfold rgO
    rw [if_pos hok, hW, hnI, List.drop_succ_cons, List.drop_zero, goI_all hn5 _ _ hL, hor, Option.bind_some, Int.toNat_natCast, hs, beq_ba]
    rfl
  · have eg2 : s = gword ++ ⟨#[32]⟩ ++ (decB n ++ tailT (pairsE m n)) := by
      rw [eg]
      have : graphB = gword ++ ⟨#[32]⟩ := by apply ByteArray.ext; rfl
      rw [this]
    have hgl : lacks gword 32 := by
      intro b hb e
      subst e
      revert hb
      decide
    have hW : splitL s 32 = gword :: decB n :: (pairsE m n).map edgeW := by
      have h1 := splitL_hit hgl (decB n ++ tailT (pairsE m n))
      rw [e32, ← eg2] at h1
      rw [h1]
      congr 1
      exact pieces_tail (Sp := fun s => splitL s 32) (fun a ha => by have := splitL_miss ha; rw [e32] at this; exact this) (fun a r ha => by have := splitL_hit ha r; rw [e32] at this; exact this) _ _ hd hlk
    have h0 : h0S s = gword := by unfold h0S; rw [hW]; rfl
    have h1 : h1S s = decB n := by unfold h1S; rw [hW]; rfl
    have hnum := l01_dec n (by omega) (by omega)
    have hnS : nS s = (n : Int) := by unfold nS; rw [h1, hnum.1]
    have hok : okS s = true := by
      unfold okS
      rw [hW, h0, hnS, h1, hnum.2, beq_ba]
      simp; omega
    unfold rsO
    rw [if_pos hok, hW, hnS, List.drop_succ_cons, List.drop_succ_cons, List.drop_zero, goS_all hn5 _ _ hL, hor, Option.bind_some, Int.toNat_natCast, hgr, beq_ba]
    rfl
/-! ### agreement -/
theorem pairsE_mod (m b : Nat) : ∀ (j : Nat), j * (j - 1) / 2 ≤ b → j ≤ 5 → pairsE ((m % 2 ^ b : Nat) : Int) j = pairsE (m : Int) j
  | 0, _, _ => rfl
  | j + 1, hb, hj => by
    have h1 : j * (j - 1) / 2 ≤ b := by
      have : j = 0 ∨ j = 1 ∨ j = 2 ∨ j = 3 ∨ j = 4 := by omega
      rcases this with rfl | rfl | rfl | rfl | rfl <;> simp at hb ⊢ <;> omega
    rw [pairsE, pairsE, pairsE_mod m b j h1 (by omega)]
    congr 1
    unfold prE
    congr 1
    apply List.filter_congr
    intro i hi
    have hi := List.mem_range.1 hi
    unfold hasB
    rw [Int.toNat_natCast, Int.toNat_natCast, Nat.testBit_mod_two_pow]
    have : bitI ((i : Int)).toNat ((j : Int)).toNat < b := by
      rw [Int.toNat_natCast, Int.toNat_natCast]
      unfold bitI
      rw [if_pos hi]
      have : j = 0 ∨ j = 1 ∨ j = 2 ∨ j = 3 ∨ j = 4 := by omega
      rcases this with rfl | rfl | rfl | rfl | rfl <;> simp at hb ⊢ <;> omega
    simp only [Int.toNat_natCast] at this ⊢
    simp [this]
theorem grT_mod {n m : Nat} (hn : n ≤ 5) : ∃ k : Nat, graphOk n k = true ∧ grT k n = grT m n := by
  refine ⟨m % 2 ^ (pairsI n).toNat, ?_, ?_⟩
  · unfold graphOk
    refine decide_eq_true ⟨⟨by omega, by omega⟩, ?_⟩
    have := Nat.mod_lt m (Nat.two_pow_pos (pairsI n).toNat)
    exact_mod_cast this
  · unfold grT
    rw [pairsE_mod m _ n ?_ hn]
    have : n = 0 ∨ n = 1 ∨ n = 2 ∨ n = 3 ∨ n = 4 ∨ n = 5 := by omega
    rcases this with rfl | rfl | rfl | rfl | rfl | rfl <;> decide
theorem rgO_text {s : ByteArray} {n m : Nat} (h : rgO s = some (n, m)) : n ≤ 5 ∧ grT m n = s := by
  unfold rgO at h
  split at h
  · rename_i hok
    cases hg : goI (nI s) ((wdI s).drop 1) 0 with
    | none => rw [hg] at h; cases h
    | some k =>
      rw [hg, Option.bind_some] at h
      split at h
      · rename_i he
        rw [ba_eq, decide_eq_true_eq] at he
        injection h with h
        injection h with h1 h2
        subst h1; subst h2
        unfold okI at hok
        simp only [Bool.and_eq_true, decide_eq_true_eq] at hok
        exact ⟨by omega, he⟩
      · cases h
  · cases h
theorem rsO_text {s : ByteArray} {n m : Nat} (h : rsO s = some (n, m)) : graphOk n m = true ∧ grT m n = s := by
  unfold rsO at h
  split at h
  · rename_i hok
    cases hg : goS (nS s) ((splitL s 32).drop 2) 0 with
    | none => rw [hg] at h; cases h
    | some k =>
      rw [hg, Option.bind_some] at h
      split at h
      · rename_i he
        rw [ba_eq, decide_eq_true_eq] at he
        injection h with h
        injection h with h1 h2
        subst h1; subst h2
        have hpos : 0 ≤ nS s := by unfold nS; exact (l01V_in _).1
        have en : ((nS s).toNat : Int) = nS s := by omega
        rw [en]
        unfold graphT at he
        split at he
        · rename_i ho
          exact ⟨ho, he⟩
        · exfalso
          unfold okS at hok
          simp only [Bool.and_eq_true, decide_eq_true_eq] at hok
          have h2 := hok.1.1
          rw [← he] at h2
          have : (splitL noB 32).length = 1 := by decide
          omega
      · cases h
  · cases h
theorem graph_same (s : ByteArray) : rgO s = rsO s := by
  cases h1 : rgO s with
  | some p =>
    obtain ⟨n, m⟩ := p
    obtain ⟨hn, ht⟩ := rgO_text h1
    obtain ⟨k, hk, hkt⟩ := grT_mod (m := m) hn
    have := reads_graph hk
    rw [hkt, ht] at this
    rw [← h1, this.1, this.2]
  | none =>
    cases h2 : rsO s with
    | none => rfl
    | some p =>
      obtain ⟨n, m⟩ := p
      obtain ⟨ho, ht⟩ := rsO_text h2
      have := reads_graph ho
      rw [ht, h1] at this
      cases this.1
end Go.Proofs.YtlglgcmpeabdnaaGreatDoorAi
end

section
/- Contracts: TrimPrefix, TrimSuffix; what is read of graphs is small. -/
namespace Go.Proofs.YtlglgcmpeabdnaaGreatDoorAi
open Go Go.RowKit
set_option linter.unusedVariables false
set_option linter.unusedSimpArgs false
set_option maxRecDepth 20000

/-! ### trimmed texts -/
noncomputable def sp_trimP : List AV → Option (AV) := pf (ι := (ByteArray) × (ByteArray)) (α := AV) (fun ⟨s, p⟩ => s.size ≤ 1048576) (fun ⟨s, p⟩ => [.str s, .str p]) (fun ⟨s, p⟩ => .str (cpA s p))
theorem sp_trimP_eq (s p : ByteArray) (h : s.size ≤ 1048576) : sp_trimP [.str s, .str p] = some (.str (cpA s p)) := by
  unfold sp_trimP
  exact pf_eq (ι := (ByteArray) × (ByteArray)) (α := AV) (s, p) h (by rintro ⟨s', p'⟩ _ e; simp_all [Int.natCast_inj])
theorem q_strings_TrimPrefix : QP PP 34 sp_trimP := by
  refine QP_pf (fun i h => ?_) fun i h => ?_
  · obtain ⟨s, p⟩ := i; exact ⟨by first | rfl | simp, by first | rfl | simp⟩
  obtain ⟨s, p⟩ := i
  refine T.lib ⟨_, Tryz.func34, by kernel_rfl, by kernel_rfl⟩ (fun σ w vs hr hG => ?_) .nil
  obtain ⟨v1, us, rfl, h1, h2⟩ := hr.head
  obtain ⟨v2, us2, rfl, h3, h4⟩ := h2.head
  obtain rfl : us2 = [] := List.eq_nil_of_length_eq_zero h4.1.symm
  cases h1; cases h3
  refine (Tryz.strings_TrimPrefix s p w).mono ?_
  rintro e w' ⟨rfl, rfl⟩
  exact ⟨_, rfl, Below.refl _ _, .str _⟩
theorem goI_lt {n : Int} (hn : n ≤ 5) : ∀ (W : List ByteArray) (a m : Nat), a < 1024 → goI n W a = some m → m < 1024
  | [], a, m, ha, h => by
    rw [goI] at h; injection h with h; omega
  | w :: r, a, m, ha, h => by
    rw [goI] at h
    split at h
    · rename_i hk
      unfold edgeOk at hk
      simp only [Bool.and_eq_true] at hk
      exact goI_lt hn r _ m (Nat.or_lt_two_pow (n := 10) ha (bit_small (pairI_in hn hk.2))) h
    · cases h
theorem rgO_lt {s : ByteArray} {n m : Nat} (h : rgO s = some (n, m)) : n ≤ 5 ∧ m < 1024 := by
  refine ⟨(rgO_text h).1, ?_⟩
  unfold rgO at h
  split at h
  · rename_i hok
    unfold okI at hok
    simp only [Bool.and_eq_true, decide_eq_true_eq] at hok
    cases hg : goI (nI s) ((wdI s).drop 1) 0 with
    | none => rw [hg] at h; cases h
    | some k =>
      rw [hg, Option.bind_some] at h
      split at h
      · injection h with h
        injection h with h1 h2
        subst h2
        exact goI_lt hok.2.2 _ 0 k (by decide) hg
      · cases h
  · cases h
end Go.Proofs.YtlglgcmpeabdnaaGreatDoorAi
end

section
/- MADE BY PROGRAM (wip/tools/gen.py): the abstract code of functions. -/
namespace Go.Proofs.YtlglgcmpeabdnaaGreatDoorAi
open Go AC AOp Opd
set_option linter.unusedVariables false
set_option maxRecDepth 100000
def c_impl_readFractions : AC := seq (reg [⟨(some 2), mv (c (.sl [] true)), none⟩, ⟨(some 3), mv (c (.bool false)), none⟩]) (seq (reg [⟨(some 9), bsl 2 0 [.int .i64 0, .int .i64 0] [], none⟩, ⟨(some 4), mv (t 9), none⟩]) (seq (seq (reg [⟨(some 10), mv (t 0), none⟩, ⟨(some 11), calle (c (.fn 32 [])) [t 10, c (.str ⟨#[32]⟩)] [], none⟩, ⟨(some 12), len (t 11), none⟩, ⟨(some 13), mv (c (.int .i64 0)), none⟩]) (block 0 (loop (seq (reg [⟨(some 14), bin .lss (t 13) (t 12), none⟩]) (seq (cond (t 14) (skip) (exit 0)) (seq (block 1 (seq (reg [⟨(some 15), iad 1 (t 11) (t 13), none⟩, ⟨(some 16), ld (t 15) 1 false, none⟩, ⟨(some 6), mv (t 16), none⟩]) (seq (reg [⟨(some 18), mv (t 6), none⟩, ⟨(some 19), callq (c (.fn 86 [])) [t 18], none⟩, ⟨(some 17), mv (t 19), none⟩, ⟨(some 20), ext (t 17) 0, none⟩, ⟨(some 21), ext (t 17) 1, none⟩, ⟨(some 7), alloc [.int .i64 0, .int .i64 0], none⟩, ⟨none, st (t 7) 2 (t 20), none⟩, ⟨(some 8), mv (t 21), none⟩]) (seq (seq (reg [⟨(some 22), mv (t 8), none⟩, ⟨(some 23), bin .neq (t 22) (c (.int .i64 0)), none⟩]) (cond (t 23) (seq (reg [⟨(some 2), mv (c (.sl [] true)), none⟩, ⟨(some 3), mv (c (.bool false)), none⟩]) (ret)) (skip))) (reg [⟨(some 24), mv (t 4), none⟩, ⟨(some 25), ld (t 7) 2 true, none⟩, ⟨(some 26), bsl 2 1 [.int .i64 0, .int .i64 0] [(0, t 25)], none⟩, ⟨(some 27), app 2 16 (t 24) (t 26), none⟩, ⟨(some 4), mv (t 27), none⟩]))))) (reg [⟨(some 28), bin .add (t 13) (c (.int .i64 1)), none⟩, ⟨(some 13), mv (t 28), none⟩]))))))) (seq (reg [⟨(some 29), mv (t 4), none⟩, ⟨(some 2), mv (t 29), none⟩, ⟨(some 3), mv (c (.bool true)), none⟩]) (ret))))
def r_impl_readFractions : List ARes := [.tmp 2, .tmp 3]
theorem k_impl_readFractions : acLin Go.Proofs.Tryz.prog 35 1 (inQ [86] [32]) [] = some (c_impl_readFractions, r_impl_readFractions) := by kernel_rfl
def c_impl_ReadPattern : AC := seq (reg [⟨(some 2), alloc [.int .i64 0, .int .u32 0, .int .u32 0, .sl [] true], none⟩, ⟨(some 3), mv (c (.int .i64 0)), none⟩]) (seq (reg [⟨(some 14), mv (t 0), none⟩, ⟨(some 15), calle (c (.fn 32 [])) [t 14, c (.str ⟨#[10]⟩)] [], none⟩, ⟨(some 4), mv (t 15), none⟩]) (seq (seq (reg [⟨(some 16), mv (t 0), none⟩, ⟨(some 17), lens (t 16), none⟩, ⟨(some 18), bin .gtr (t 17) (c (.int .i64 400)), none⟩, ⟨(some 19), mv (t 18), none⟩, ⟨(some 20), mv (t 4), some (19, false)⟩, ⟨(some 21), len (t 20), some (19, false)⟩, ⟨(some 22), bin .neq (t 21) (c (.int .i64 4)), some (19, false)⟩, ⟨(some 23), pick (t 19) (c (.bool true)) (t 22), none⟩]) (cond (t 23) (seq (reg [⟨(some 24), bld [.int .i64 0, .int .u32 0, .int .u32 0, .sl [] true] [], none⟩, ⟨none, st (t 2) 4 (t 24), none⟩, ⟨(some 3), mv (c (.int .i64 5)), none⟩]) (ret)) (skip))) (seq (reg [⟨(some 26), mv (t 4), none⟩, ⟨(some 27), iad 1 (t 26) (c (.int .i64 0)), none⟩, ⟨(some 28), ld (t 27) 1 false, none⟩, ⟨(some 29), callq (c (.fn 34 [])) [t 28, c (.str ⟨#[112, 97, 116, 116, 101, 114, 110, 32]⟩)], none⟩, ⟨(some 30), callq (c (.fn 33 [])) [t 29], none⟩, ⟨(some 25), mv (t 30), none⟩, ⟨(some 31), ext (t 25) 0, none⟩, ⟨(some 32), ext (t 25) 1, none⟩, ⟨(some 5), alloc [.int .i64 0, .int .u32 0], none⟩, ⟨none, st (t 5) 2 (t 31), none⟩, ⟨(some 6), mv (t 32), none⟩]) (seq (reg [⟨(some 34), mv (t 4), none⟩, ⟨(some 35), iad 1 (t 34) (c (.int .i64 2)), none⟩, ⟨(some 36), ld (t 35) 1 false, none⟩, ⟨(some 37), callq (c (.fn 34 [])) [t 36, c (.str ⟨#[119, 101, 105, 103, 104, 116, 115, 32]⟩)], none⟩, ⟨(some 38), calle (c (.fn 35 [])) [t 37] [], none⟩, ⟨(some 33), mv (t 38), none⟩, ⟨(some 39), ext (t 33) 0, none⟩, ⟨(some 40), ext (t 33) 1, none⟩, ⟨(some 7), mv (t 39), none⟩, ⟨(some 8), mv (t 40), none⟩]) (seq (reg [⟨(some 41), ld (t 5) 2 true, none⟩, ⟨(some 42), mv (t 7), none⟩, ⟨(some 43), bld [.int .i64 0, .int .u32 0, .int .u32 0, .sl [] true] [(0, 2, t 41), (3, 1, t 42)], none⟩, ⟨(some 9), alloc [.int .i64 0, .int .u32 0, .int .u32 0, .sl [] true], none⟩, ⟨none, st (t 9) 4 (t 43), none⟩]) (seq (seq (reg [⟨(some 44), mv (t 4), none⟩, ⟨(some 45), iad 1 (t 44) (c (.int .i64 1)), none⟩, ⟨(some 46), ld (t 45) 1 false, none⟩, ⟨(some 47), calle (c (.fn 32 [])) [t 46, c (.str ⟨#[32]⟩)] [], none⟩, ⟨(some 48), sli 1 (t 47) (some (c (.int .i64 1))) none none, none⟩, ⟨(some 49), len (t 48), none⟩, ⟨(some 50), mv (c (.int .i64 0)), none⟩]) (block 0 (loop (seq (reg [⟨(some 51), bin .lss (t 50) (t 49), none⟩]) (seq (cond (t 51) (skip) (exit 0)) (seq (block 1 (seq (reg [⟨(some 52), iad 1 (t 48) (t 50), none⟩, ⟨(some 53), ld (t 52) 1 false, none⟩, ⟨(some 11), mv (t 53), none⟩]) (seq (reg [⟨(some 55), mv (t 11), none⟩, ⟨(some 56), callq (c (.fn 36 [])) [t 55], none⟩, ⟨(some 54), mv (t 56), none⟩, ⟨(some 57), ext (t 54) 0, none⟩, ⟨(some 58), ext (t 54) 1, none⟩, ⟨(some 12), mv (t 57), none⟩, ⟨(some 13), mv (t 58), none⟩]) (seq (seq (reg [⟨(some 59), mv (t 13), none⟩, ⟨(some 60), un .not (t 59), none⟩, ⟨(some 61), mv (t 60), none⟩, ⟨(some 62), mv (t 12), some (61, false)⟩, ⟨(some 63), callq (c (.fn 37 [])) [t 62, c (.int .i64 0), c (.int .i64 3)], some (61, false)⟩, ⟨(some 64), un .not (t 63), some (61, false)⟩, ⟨(some 65), pick (t 61) (c (.bool true)) (t 64), none⟩]) (cond (t 65) (seq (reg [⟨(some 66), bld [.int .i64 0, .int .u32 0, .int .u32 0, .sl [] true] [], none⟩, ⟨none, st (t 2) 4 (t 66), none⟩, ⟨(some 3), mv (c (.int .i64 5)), none⟩]) (ret)) (skip))) (reg [⟨(some 67), fad (t 9) 2, none⟩, ⟨(some 68), ld (t 67) 1 false, none⟩, ⟨(some 69), mv (t 12), none⟩, ⟨(some 70), bin .shl (c (.int .u32 1)) (t 69), none⟩, ⟨(some 71), bin .or (t 68) (t 70), none⟩, ⟨(some 72), fad (t 9) 2, none⟩, ⟨none, st (t 72) 1 (t 71), none⟩]))))) (reg [⟨(some 73), bin .add (t 50) (c (.int .i64 1)), none⟩, ⟨(some 50), mv (t 73), none⟩]))))))) (seq (seq (reg [⟨(some 74), mv (t 6), none⟩, ⟨(some 75), bin .neq (t 74) (c (.int .i64 0)), none⟩, ⟨(some 76), mv (t 75), none⟩, ⟨(some 77), mv (t 8), some (76, false)⟩, ⟨(some 78), un .not (t 77), some (76, false)⟩, ⟨(some 79), pick (t 76) (c (.bool true)) (t 78), none⟩, ⟨(some 80), mv (t 79), none⟩, ⟨(some 81), ld (t 9) 4 true, some (80, false)⟩, ⟨(some 82), calle (c (.fn 38 [])) [t 81] [], some (80, false)⟩, ⟨(some 83), un .not (t 82), some (80, false)⟩, ⟨(some 84), pick (t 80) (c (.bool true)) (t 83), none⟩, ⟨(some 85), mv (t 84), none⟩, ⟨(some 86), calle (c (.fn 39 [])) [t 9] [], some (85, false)⟩, ⟨(some 87), mv (t 0), some (85, false)⟩, ⟨(some 88), bin .neq (t 86) (t 87), some (85, false)⟩, ⟨(some 89), pick (t 85) (c (.bool true)) (t 88), none⟩]) (cond (t 89) (seq (reg [⟨(some 90), bld [.int .i64 0, .int .u32 0, .int .u32 0, .sl [] true] [], none⟩, ⟨none, st (t 2) 4 (t 90), none⟩, ⟨(some 3), mv (c (.int .i64 5)), none⟩]) (ret)) (skip))) (seq (reg [⟨(some 91), ld (t 9) 4 true, none⟩, ⟨none, st (t 2) 4 (t 91), none⟩, ⟨(some 3), mv (c (.int .i64 0)), none⟩]) (ret)))))))))
def r_impl_ReadPattern : List ARes := [.cell 2 4 true, .tmp 3]
theorem k_impl_ReadPattern : acLin Go.Proofs.Tryz.prog 8 1 (inQ [33, 34, 36, 37] [32, 35, 38, 39]) [⟨false, none, [], [], none⟩, ⟨false, none, [], [], none⟩, ⟨false, none, [], [], none⟩, ⟨false, none, [], [], none⟩, ⟨false, none, [], [], none⟩, ⟨false, none, [], [], none⟩, ⟨false, none, [], [], none⟩, ⟨false, none, [], [], none⟩, ⟨false, none, [], [], none⟩, ⟨false, none, [], [], none⟩, ⟨false, none, [], [], none⟩, ⟨false, none, [], [], none⟩, ⟨false, none, [], [], none⟩, ⟨false, none, [], [], none⟩, ⟨false, none, [], [], none⟩, ⟨false, none, [], [], none⟩, ⟨false, some [0, 1, 2, 3, 4, 5, 6], [], [], none⟩] = some (c_impl_ReadPattern, r_impl_ReadPattern) := by kernel_rfl
end Go.Proofs.YtlglgcmpeabdnaaGreatDoorAi
end

section
/- Contracts: readFractions. -/
namespace Go.Proofs.YtlglgcmpeabdnaaGreatDoorAi
open Go Go.RowKit
set_option linter.unusedVariables false
set_option linter.unusedSimpArgs false
set_option maxRecDepth 20000

def gF : List ByteArray → List Fr → Option (List Fr)
  | [], L => some L
  | w :: r, L => if readOk w = true then gF r (L ++ [⟨numV (topS w), numV (botS w)⟩]) else none
def rfO (s : ByteArray) : Option (List Fr) := gF (piecesB s sepB) []
def rfA : Option (List Fr) → AV
  | some L => .tup [lvE 0 L, .bool true]
  | none => .tup [.sl [] true, .bool false]
def rfB : Option (List Fr) → List (Option (List AV))
  | some L => obE L
  | none => []
theorem rfB_inj (f : Nat → Nat) (o : Option (List Fr)) : injB f (rfB o).length = true := by
  cases o with
  | none => rfl
  | some L => exact obE_inj f L
theorem rfA_lt0 (o : Option (List Fr)) : AV.lt (rfB o).length (rfA o) = true := by
  cases o with
  | none => rfl
  | some L =>
    show AV.lt (obE L).length (.tup [lvE 0 L, .bool true]) = true
    have := lvE_lt0 L
    simp [AV.lt, ltL, this]
noncomputable def sp_readFrs : List AV → Option (AV × List (Option (List AV))) := pf (ι := (ByteArray)) (α := AV × List (Option (List AV))) (fun s => s.size ≤ 1048576) (fun s => [.str s]) (fun s => (rfA (rfO s), rfB (rfO s)))
theorem sp_readFrs_eq (s : ByteArray) (h : s.size ≤ 1048576) : sp_readFrs [.str s] = some ((rfA (rfO s), rfB (rfO s))) := by
  unfold sp_readFrs
  exact pf_eq (ι := (ByteArray)) (α := AV × List (Option (List AV))) s h (by rintro s' _ e; simp_all [Int.natCast_inj])
set_option maxHeartbeats 4000000 in
theorem n_impl_readFractions : QN PP 35 sp_readFrs := by
  refine QN_pf (fun s h => ?_) fun s h => ?_
  · first | rfl | simp
  replace h : s.size ≤ 1048576 := h
  show T PP 35 [.str s] .nil fun r' A' => r' = (((rfA (rfO s), rfB (rfO s)) : AV × List (Option (List AV)))).1 ∧ A' = ⟨(((rfA (rfO s), rfB (rfO s)) : AV × List (Option (List AV)))).2⟩
  have hsp : sp_pieces [.str s, .str ⟨#[32]⟩] = some (.ref 0 1 0 (piecesB s sepB).length .tight, [some (flatA (strsA (piecesB s sepB)))]) := sp_pieces_eq s sepB ⟨by omega, rfl⟩
  rw [flat_strs] at hsp
  have hlen : 0 < (piecesB s sepB).length := by rw [pieces_len _ _ (by decide)]; omega
  have hleni : (0 : Int) < (piecesB s sepB).length := by omega
  have hmost : (piecesB s sepB).length ≤ 1048577 := by
    rw [pieces_len _ _ (by decide)]
    have := count_le s sepB (by decide)
    omega
  have hsz : ∀ w ∈ piecesB s sepB, w.size ≤ 1048576 := fun w hw => by
    have := splitB_size sepB _ _ w hw
    omega
  refine H_code (Quiet.q1 q_impl_ReadFraction (Quiet.e1 n_strings_Split.toE Quiet.nil)) hmix k_impl_readFractions rfl (fun _ => 2) (by simp [AHeap.n, AHeap.nil]) (by intro b hb; simp [AHeap.n, AHeap.nil] at hb) (rfB_inj _ _) (rfA_lt0 _) ?_
  obtain ⟨R, hR⟩ : ∃ R, R = rfO s := ⟨_, rfl⟩
  rw [← hR]
  unfold rfO at hR
  generalize hW : piecesB s sepB = W at *
  have r3 : ∀ n, ltL n (strsA W) = true := fun n => by rw [← flat_strs]; simp
  have rr : ∀ f, renL f (strsA W) = strsA W := fun f => by rw [← flat_strs]; simp
  simp -dsimp -implicitDefEqProofs [c_impl_readFractions, r_impl_readFractions, hsp, rr]
  refine wpLoop_st (fun (L : List Fr) => ⟨tl [(4, lvE 2 L), (11, .ref 1 1 0 W.length .tight), (12, .int .i64 W.length), (13, .int .i64 L.length)], ⟨some [] :: some (strsA W) :: obE L⟩⟩) (fun L => L.length ≤ W.length ∧ gF (W.drop L.length) L = R) (fun L => W.length - L.length) [] ⟨by simp, by simp [hR]⟩ (Sub.keep (by simp [obE_nil]) (by simp [hsub, obE_nil, lvE_nil, r3, rr]) (by simp [lvE_nil])) ?_
  rintro L ⟨h1, h2⟩
  by_cases hL : L = []
  · subst hL
    have q0 : W[0]? = some W[0] := List.getElem?_eq_getElem hlen
    have hfr := sp_readFr_eq W[0] (hsz _ (List.getElem_mem hlen))
    have hd : W.drop 0 = W[0] :: W.drop 1 := List.drop_eq_getElem_cons hlen
    have h2 : gF (W.drop 0) [] = R := h2
    rw [hd, gF] at h2
    unfold readR at hfr
    have l1 : 1 * 17 ≤ mostBytes := by decide
    cases hk : readOk W[0] with
    | false =>
      rw [hk] at h2
      rw [if_neg (by rw [hk]; decide)] at hfr
      have hR2 : R = none := h2.symm
      subst hR2
      simp -dsimp -implicitDefEqProofs [obE_nil, lvE_nil, hlen, hleni, q0, hfr, rfA, rfB, hsub]
    | true =>
      rw [if_pos hk] at h2 hfr
      have w1 : IntKind.wrap .i64 1 = 1 := rfl
      have h2 : gF (W.drop 1) [⟨numV (topS W[0]), numV (botS W[0])⟩] = R := h2
      obtain ⟨L1, hL1⟩ : ∃ L1 : List Fr, L1 = [⟨numV (topS W[0]), numV (botS W[0])⟩] := ⟨_, rfl⟩
      have n1 : L1.length = 1 := by rw [hL1]; rfl
      have e5 : L1 ≠ [] := by rw [hL1]; simp
      have e1 : flatA (frsA L1) = [.int .i64 (numV (topS W[0])), .int .i64 (numV (botS W[0]))] := by rw [hL1]; rfl
      rw [← hL1] at h2
      simp -dsimp -implicitDefEqProofs [obE_nil, lvE_nil, hlen, hleni, q0, hfr, l1]
      refine .mk L1 ⟨by omega, by rw [n1]; exact h2⟩ (by simp only [List.length_nil]; omega) (Sub.mk' (fun b => if b = 2 then 4 else b) (by simp [obE_cons e5]) (by intro b hb; simp [obE_cons e5] at hb <;> omega) (by first | rfl | (rw [obE_cons e5]; rfl)) (by simp [hsub, obE_cons e5, lvE_cons e5, r3, rr, e1, n1]) (by simp [w1, n1, lvE_cons e5, obE_cons e5]))
  · have l2 : ¬ ((L.length + 1) * 2 ≤ L.length * 2) := by omega
    have l3 : (flatA (frsA L)).take (L.length * 2) = flatA (frsA L) := List.take_of_length_le (by simp)
    simp -dsimp -implicitDefEqProofs [obE_cons hL, lvE_cons hL]
    refine brW_of (fun h => ?_) (fun h => ?_) <;> simp only [decide_eq_true_eq, decide_eq_false_iff_not] at h
    · have hx : L.length < W.length := by omega
      have q0 : W[L.length]? = some W[L.length] := List.getElem?_eq_getElem hx
      have hfr := sp_readFr_eq W[L.length] (hsz _ (List.getElem_mem hx))
      have hd : W.drop L.length = W[L.length] :: W.drop (L.length + 1) := List.drop_eq_getElem_cons hx
      rw [hd, gF] at h2
      unfold readR at hfr
      generalize hww : W[L.length] = w at *
      have l1 : (L.length + 1) * 17 ≤ mostBytes := by simp only [mostBytes]; omega
      cases hk : readOk w with
      | false =>
        rw [hk] at h2
        rw [if_neg (by rw [hk]; decide)] at hfr
        have hR2 : R = none := h2.symm
        subst hR2
        simp -dsimp -implicitDefEqProofs [hx, q0, hww, hfr, rfA, rfB, hsub, obE_cons hL, lvE_cons hL]
      | true =>
        rw [if_pos hk] at h2 hfr
        have hwi := wrapNat (i := L.length) (by omega)
        have e2 := frE_snoc L (numV (topS w)) (numV (botS w))
        have e5 : L ++ [(⟨numV (topS w), numV (botS w)⟩ : Fr)] ≠ [] := by simp
        simp -dsimp -implicitDefEqProofs [hx, q0, hww, hfr, l1, l2, l3, e2, obE_cons hL, lvE_cons hL]
        refine .mk (L ++ [⟨numV (topS w), numV (botS w)⟩]) ⟨by simp only [List.length_append, List.length_singleton]; omega, by simp only [List.length_append, List.length_singleton]; exact h2⟩ (by simp only [List.length_append, List.length_singleton]; omega) (Sub.mk' (fun b => if b = 2 then 5 else b) (by simp [obE_cons e5]) (by intro b hb; simp [obE_cons e5] at hb <;> omega) (by first | rfl | (rw [obE_cons e5]; rfl)) (by simp [hsub, obE_cons e5, lvE_cons e5, r3, rr]) (by simp [hwi, lvE_cons e5, obE_cons e5]))
    · have hi : L.length = W.length := by omega
      rw [hi, List.drop_length, gF] at h2
      subst h2
      simp -dsimp -implicitDefEqProofs [rfA, rfB, obE_cons hL, lvE_cons hL, hsub]
end Go.Proofs.YtlglgcmpeabdnaaGreatDoorAi
end

section
/- Contracts: strings.Builder: WriteString and String, with all that they change. -/
namespace Go.Proofs.YtlglgcmpeabdnaaGreatDoorAi
open Go Go.RowKit Go.Shelf
set_option linter.unusedVariables false
set_option linter.unusedSimpArgs false
variable {P : Program} {ρ : Go.Shelf.Ren}

/-- Only one block, and one row, may have changed. -/
structure Chg (w w' : World) (b : Nat) (g : Option Nat) : Prop where
  os : w'.os = w.os
  tape : w'.tape = w.tape
  output : w'.output = w.output
  size : w.heap.size ≤ w'.heap.size
  block : ∀ k, k < w.heap.size → k ≠ b → some k ≠ g → w'.heap[k]? = w.heap[k]?
/-- append of a string's bytes: as in the library's law, and the row is the old one or new. -/
theorem bApp (w : World) (t u ty e : TypeId) (i : TypeInfo) (ht : P.underlying t = some (.slice e)) (hu : P.underlying u = some .string) (hi : P.info? e = some i) (hz : i.zero = some (.int .u8 0))
    (hsize : i.size = 1) (hby : i.bytes = 1) (v : Value) (n : Nat) (xs : List Value) (hown : w.ownsRow 0 e 1 v n xs) (s : ByteArray)
    (h63 : n + s.size ≤ maxLen) (hbytes : n + s.size ≤ 140737488355328) :
    ∃ v' w', (Builtin.append_ #[t, u] ty #[v, .string s]).run P w = .ok v' w' ∧ w'.ownsRow 0 e 1 v' (n + s.size) (xs ++ Lib.strCells s) ∧ w.grownBy w' v.ownBlock ∧ (v'.ownBlock = v.ownBlock ∨ v'.ownBlock = some w.heap.size) ∧ (∀ g cs, v.ownBlock = some g → w.heap[g]? = some (.cells cs e (0, 0)) → ∃ cs', w'.heap[g]? = some (.cells cs' e (0, 0)) ∧ cs'.size = cs.size) := by
  obtain ⟨v', w', hr, h2, h3, h4⟩ := Lib.run_append_own_string (P := P) w 0 t u ty e i ht hu hi hz hsize hby v n xs hown s h63 hbytes (Nat.zero_le _)
  refine ⟨v', w', hr, h2, h3, ?_⟩
  have hsmall : n + s.size ≤ 9223372036854775807 := by simp only [maxLen] at h63; omega
  have hxl : xs.length = n := by simpa using hown.1
  rcases hown.2 with ⟨rfl, rfl⟩ | ⟨g, cap, cur, rfl, hbg, hg, hnc, hcm, hcs, htake⟩
  · by_cases hm : s.size = 0
    · rw [h4.2 ⟨rfl, hm⟩]; exact ⟨.inl rfl, fun g cs hg => (by cases hg)⟩
    · have hr2 := Go.run_append_nil_string (P := P) w t u ty e i (.int .u8 0) ht hu hi hz s (by omega) (by omega) (by rw [hby]; omega)
      rw [hr] at hr2
      injection hr2 with e1 e2
      rw [e1]; exact ⟨.inr rfl, fun g cs hg => (by cases hg)⟩
  · by_cases hroom : n + s.size ≤ cap
    · have hcs' : cur.size = cap := by simpa using hcs
      have hr2 := Lib.run_append_room_string (P := P) w t u ty e i ht hu hi hsize g n cap cur hg s hroom (by omega)
      rw [hr] at hr2
      injection hr2 with e1 e2
      rw [e1]
      refine ⟨.inl rfl, fun g' cs hg1 hg2 => ?_⟩
      cases hg1
      rw [hg] at hg2
      injection hg2 with hg2; injection hg2 with hg2 _ _
      subst hg2
      rw [e2]
      refine ⟨_, setRow_heap w g cur _ e _ hg, ?_⟩
      simp only [List.size_toArray, List.length_append, List.length_take, List.length_drop, Array.length_toList, Lib.strCells_length]
      omega
    · have holds : ∀ j u, xs[j]? = some u → w.cell? ((⟨g, 0, none⟩ : Addr).add j) = some u := hown.cells (g := g) rfl
      have hr2 := Lib.run_append_grow_string (P := P) w t u ty e i (.int .u8 0) ht hu hi hz ⟨g, 0, none⟩ n cap xs (by rw [hsize]; simpa using hxl) holds s (by omega) (by omega) (by rw [hby]; exact Go.growslice_fits (by omega) (by omega))
      rw [hr] at hr2
      injection hr2 with e1 e2
      rw [e1]
      refine ⟨.inr rfl, fun g' cs hg1 hg2 => ?_⟩
      rw [e2]
      exact ⟨cs, (heap_alloc_old w.drew _ (Array.getElem?_eq_some_iff.1 hg2).1).trans hg2, rfl⟩
/-- .. behind an empty slice of no room. -/
theorem bApp0 (w : World) (t u ty e : TypeId) (i : TypeInfo) (ht : P.underlying t = some (.slice e)) (hu : P.underlying u = some .string) (hi : P.info? e = some i) (hz : i.zero = some (.int .u8 0))
    (hsize : i.size = 1) (hby : i.bytes = 1) (a : Option Addr) (s : ByteArray) (hm : s.size ≠ 0) (h63 : s.size ≤ maxLen) (hbytes : s.size ≤ 140737488355328) :
    ∃ v' w', (Builtin.append_ #[t, u] ty #[.slice a 0 0, .string s]).run P w = .ok v' w' ∧ w'.ownsRow 0 e 1 v' s.size (Lib.strCells s) ∧ w.grownBy w' none ∧ v'.ownBlock = some w.heap.size := by
  have hsmall : s.size ≤ 9223372036854775807 := by simp only [maxLen] at h63; omega
  cases a with
  | none =>
    obtain ⟨v', w', hr, h2, h3, h4, _⟩ := bApp (P := P) w t u ty e i ht hu hi hz hsize hby (.slice none 0 0) 0 [] (World.ownsRow_nil w 0 e 1) s (by omega) (by omega)
    rw [Nat.zero_add, List.nil_append] at h2
    refine ⟨v', w', hr, h2, h3, ?_⟩
    rcases h4 with h4 | h4
    · rcases h2.2 with ⟨_, hz0⟩ | ⟨g, cap, cur, rfl, _⟩
      · exact absurd hz0 hm
      · cases h4
    · exact h4
  | some ad =>
    have hr := Lib.run_append_grow_string (P := P) w t u ty e i (.int .u8 0) ht hu hi hz ad 0 0 [] (by simp) (by simp) s (by omega) (by omega) (by rw [hby]; exact Go.growslice_fits (by omega) (by omega))
    rw [Nat.zero_add] at hr
    have hge := grownCap_ge w s.size 0 e
    have hcm : grownCap w s.size 0 e ≤ maxLen := grownCap_le_maxLen w s.size 0 e h63
    refine ⟨_, _, hr, ⟨by rw [Lib.strCells_length, Nat.mul_one], .inr ⟨w.heap.size, _, _, rfl, Nat.zero_le _, heap_alloc_new w.drew _, hge, hcm, ?_, ?_⟩⟩, ⟨rfl, rfl, rfl, by simp, fun k hk _ => heap_alloc_old w.drew _ hk⟩, rfl⟩
    · have hz1 : (Value.int IntKind.u8 0).cells.size = 1 := rfl
      simp only [Array.size_append, List.size_toArray, size_zeroCells, hz1, Lib.strCells_length, List.length_nil]
      omega
    · simp only [Array.toList_append, List.nil_append]
      rw [show s.size * 1 = (Lib.strCells s).length by rw [Lib.strCells_length, Nat.mul_one]]
      exact List.take_left
theorem wpB_run {w w' : World} {ops : Array Oper} {rest : List Oper} {o : Oper} {a : Act} {Q : Exit → Act → World → Prop} (hgd : o.guard = none) (sl x : Operand) (t u : TypeId)
    (ho : o.op = .call { callee := .builtin .append, args := #[sl, x], argTypes := #[t, u] }) (v v' : Value) (hs : a.eval sl = v) (s : ByteArray) (hx : a.eval x = .string s)
    (hr : (Builtin.append_ #[t, u] 0 #[v, .string s]).run P w = .ok v' w') (h : wpList P ops Q rest (a.put o.dst v') w') : wpList P ops Q (o :: rest) a w := by
  refine wpList_plain hgd fun K hK => ?_
  have hr : (Builtin.append_ #[t, u] o.type #[v, .string s]).run P w = .ok v' w' := hr
  unfold Oper.wp execOp
  simp only [ho, resolve, invoke, builtin, Sem.run_bind, Sem.run_pure, Result.andThen_ok, List.map_toArray, List.map_cons, List.map_nil, hs, hx, hr]
  exact hK _ _ h
theorem bCheck (L : Lays.n240 P ρ) (X : Builder.X72 P ρ) (b : Nat) (p v : Value) (w : World) (hp : p = .pointer none ∨ p = .pointer (some ⟨b, 0, none⟩)) (hbk : w.heap[b]? = some (.cells #[p, v] (ρ.t 72) (0, 0))) :
    Calls P (ρ.f 240) #[.pointer (some ⟨b, 0, none⟩)] w fun e w' => e = .returned (.tuple #[]) ∧ w'.heap[b]? = some (.cells #[.pointer (some ⟨b, 0, none⟩), v] (ρ.t 72) (0, 0)) ∧ w'.heap.size = w.heap.size ∧ Chg w w' b none := by
  have c0 : w.cell? ⟨b, 0, none⟩ = some p := by rw [Lib.cell_of_heap hbk]; rfl
  rcases hp with rfl | rfl
  · refine (Any.Builder_copyCheck_fresh L X b w c0 (by simp [World.shape?, hbk]) (by simp [World.frozen?, hbk])).mono ?_
    rintro e w' ⟨rfl, rfl⟩
    exact ⟨rfl, by simp [World.setCell, Array.getElem?_modify, hbk], by simp [World.setCell], ⟨rfl, rfl, rfl, by simp [World.setCell], fun k _ hk _ => Below.heap_setCell _ _ _ _ hk⟩⟩
  · refine (Any.Builder_copyCheck_used L X b w c0).mono ?_
    rintro e w' ⟨rfl, rfl⟩
    exact ⟨rfl, hbk, rfl, ⟨rfl, rfl, rfl, Nat.le_refl _, fun _ _ _ _ => rfl⟩⟩
set_option maxHeartbeats 2000000 in
set_option maxRecDepth 100000 in
theorem bWrite (L : Lays.n166 P ρ) (X : Builder.Extra P ρ) (b : Nat) (p v : Value) (s : ByteArray) (w : World) (g : Option Nat) (m : Nat) (xs : List Value) (hp : p = .pointer none ∨ p = .pointer (some ⟨b, 0, none⟩)) (hbk : w.heap[b]? = some (.cells #[p, v] (ρ.t 72) (0, 0)))
    (hgb : g ≠ some b) (happ : ∀ w1, Chg w w1 b none → w1.heap.size = w.heap.size → ∃ v' w', (Builtin.append_ #[(ρ.t 37), (ρ.t 9)] 0 #[v, .string s]).run P w1 = .ok v' w' ∧ w'.ownsRow 0 (ρ.t 5) 1 v' m xs ∧ w1.grownBy w' g ∧ (v'.ownBlock = g ∨ v'.ownBlock = some w1.heap.size) ∧
      (∀ (g' : Nat) (cs : Array Value), g = some g' → w1.heap[g']? = some (.cells cs (ρ.t 5) (0, 0)) → ∃ (cs' : Array Value), w'.heap[g']? = some (.cells cs' (ρ.t 5) (0, 0)) ∧ cs'.size = cs.size)) :
    Calls P (ρ.f 166) #[.pointer (some ⟨b, 0, none⟩), .string s] w fun e w' => e = .returned (.tuple #[.int .i64 s.size, .nilIface]) ∧ Chg w w' b g ∧
      ∃ v', w'.heap[b]? = some (.cells #[.pointer (some ⟨b, 0, none⟩), v'] (ρ.t 72) (0, 0)) ∧ w'.ownsRow 0 (ρ.t 5) 1 v' m xs ∧ (v'.ownBlock = g ∨ ∃ k, v'.ownBlock = some k ∧ w.heap.size ≤ k) ∧
      (∀ (g' : Nat) (cs : Array Value), g = some g' → w.heap[g']? = some (.cells cs (ρ.t 5) (0, 0)) → ∃ (cs' : Array Value), w'.heap[g']? = some (.cells cs' (ρ.t 5) (0, 0)) ∧ cs'.size = cs.size) := by
  obtain ⟨i0, hi, hz0, hz1, hz2⟩ := info_parts X.infoByte
  have mixed := L.mixed
  have t72 := L.t72; have a72 := L.a72; have z72 := L.z72; have v72 := L.v72; have u72 := run_underlying L.t72
  have t70 := L.t70; have a70 := L.a70; have z70 := L.z70; have v70 := L.v70; have u70 := run_underlying L.t70
  have t37 := L.t37; have a37 := L.a37; have z37 := L.z37; have v37 := L.v37; have u37 := run_underlying L.t37
  have t3 := L.t3; have a3 := L.a3; have z3 := L.z3; have v3 := L.v3; have u3 := run_underlying L.t3
  have t9 := L.t9; have a9 := L.a9; have z9 := L.z9; have v9 := L.v9; have u9 := run_underlying L.t9
  have t4 := L.t4; have a4 := L.a4; have z4 := L.z4; have v4 := L.v4; have u4 := run_underlying L.t4
  have t164 := L.t164; have a164 := L.a164; have z164 := L.z164; have v164 := L.v164; have u164 := run_underlying L.t164
  have t5 := X.t5; have a5 := X.a5; have z5 := X.z5; have v5 := X.v5; have u5 := run_underlying X.t5
  have e240 : ∀ args w, (callFunc (ρ.f 240) args).run P w = .ok (.enter (ρ.f 240) args) w := enters_of L.f240 (by kernel_rfl) rfl
  go_enter L.f166, Body.n166_ntmps ρ
  go_wp2_with (go_at_fn (ρ.f 240); refine (bCheck { L with } X.toX72 b p v _ hp hbk).mono ?_)
  rintro e w1 ⟨rfl, hbk1, hsz1, hch⟩
  obtain ⟨v', w2, hr, hown', hgrow, hfr, hrow⟩ := happ w1 hch hsz1
  obtain ⟨ao, n', cap, rfl⟩ : ∃ ao n' cap, v' = .slice ao n' cap := by
    rcases hown'.2 with ⟨hv, _⟩ | ⟨g, cap, cur, hv, _⟩
    · exact ⟨_, _, _, hv⟩
    · exact ⟨_, _, _, hv⟩
  have c0 : w1.cell? ⟨b, 0, none⟩ = some (.pointer (some ⟨b, 0, none⟩)) := by rw [Lib.cell_of_heap hbk1]; rfl
  have c1 : w1.cell? ⟨b, 1, none⟩ = some v := by rw [Lib.cell_of_heap hbk1]; rfl
  have hlt : b < w1.heap.size := (Array.getElem?_eq_some_iff.1 hbk1).1
  have hb2 : w2.heap[b]? = some (.cells #[.pointer (some ⟨b, 0, none⟩), v] (ρ.t 72) (0, 0)) := by
    rw [hgrow.block b hlt (fun e => hgb e.symm)]
    exact hbk1
  have d0 : w2.cell? ⟨b, 0, none⟩ = some (.pointer (some ⟨b, 0, none⟩)) := by rw [Lib.cell_of_heap hb2]; rfl
  have d1 : w2.cell? ⟨b, 1, none⟩ = some v := by rw [Lib.cell_of_heap hb2]; rfl
  have f1 : w2.frozen? ⟨b, 1, none⟩ = false := Lib.frozen_of_heap hb2 1
  have hml : m = xs.length := by have := hown'.1; omega
  have hown'' : w2.ownsRow 0 (ρ.t 5) 1 (.slice ao n' cap) xs.length xs := by rw [← hml]; exact hown'
  have hne' : (Value.slice ao n' cap).ownBlock ≠ some b := Lib.ownBlock_ne hown'' hb2 X.neB5
  clear happ hml hown''
  go_wp2_with (at_builtin; refine wpB_run rfl _ _ (ρ.t 37) (ρ.t 9) rfl _ (.slice ao n' cap) rfl s rfl hr ?_)
  go_ret2
  refine ⟨rfl, ⟨hgrow.os.trans hch.os, hgrow.tape.trans hch.tape, hgrow.output.trans hch.output, ?_, fun k hk hkb hkg => ?_⟩, _, by simp [World.setCell, Array.getElem?_modify, hb2]; rfl, ?_, ?_, fun g' cs hg1 hg2 => ?_⟩
  · have := hgrow.size
    simp [World.setCell]; omega
  · rw [Below.heap_setCell _ _ _ _ hkb, hgrow.block k (by omega) hkg]
    exact hch.block k hk hkb (by simp)
  · exact hown'.kept (row := some b) ⟨rfl, rfl, rfl, by simp [World.setCell], fun k _ hk => Below.heap_setCell _ _ _ _ (fun e => hk (by simp [e]))⟩ (Or.inr hne')
  · rcases hfr with hfr | hfr
    · exact .inl hfr
    · exact .inr ⟨_, hfr, by omega⟩
  · have hgb : g' ≠ b := fun e => hgb (by rw [hg1, e])
    obtain ⟨cs', k1, k2⟩ := hrow g' cs hg1 (by rw [hch.block g' (Array.getElem?_eq_some_iff.1 hg2).1 hgb (by simp)]; exact hg2)
    exact ⟨cs', by rw [Below.heap_setCell _ _ _ _ hgb]; exact k1, k2⟩
set_option maxHeartbeats 1000000 in
set_option maxRecDepth 100000 in
theorem bString (L : Lays.n169 P ρ) (X : Builder.Extra P ρ) (b g cap : Nat) (p : Value) (cur : Array Value) (l : List UInt8) (w : World) (hbk : w.heap[b]? = some (.cells #[p, .slice (some ⟨g, 0, none⟩) l.length cap] (ρ.t 72) (0, 0))) (h0 : l ≠ [])
    (hg : w.heap[g]? = some (.cells cur (ρ.t 5) (0, 0))) (hnc : l.length ≤ cap) (hcm : cap ≤ maxLen) (hcs : cur.size = cap) (htake : cur.toList.take l.length = Lib.byteCells l) :
    Calls P (ρ.f 169) #[.pointer (some ⟨b, 0, none⟩)] w fun e w' => e = .returned (.string ⟨l.toArray⟩) ∧ Chg w w' g none ∧ ∃ fr, w'.heap[g]? = some (.cells cur (ρ.t 5) fr) := by
  have hl0 : l.length ≠ 0 := by simpa using h0
  have hown : w.ownsRow 0 (ρ.t 5) 1 (.slice (some ⟨g, 0, none⟩) l.length cap) l.length (Lib.byteCells l) := ⟨by rw [Lib.byteCells_length, Nat.mul_one], .inr ⟨g, cap, cur, rfl, Nat.zero_le _, hg, hnc, hcm, by omega, by rw [Nat.mul_one]; exact htake⟩⟩
  have c1 : w.drew.cell? ⟨b, 1, none⟩ = some (.slice (some ⟨g, 0, none⟩) l.length cap) := by
    have : w.drew.heap[b]? = some (.cells #[p, .slice (some ⟨g, 0, none⟩) l.length cap] (ρ.t 72) (0, 0)) := hbk
    rw [Lib.cell_of_heap this]; rfl
  have hSD : (Builtin.unsafeSliceData_ #[(ρ.t 37)] (ρ.t 127) #[.slice (some ⟨g, 0, none⟩) l.length cap]).run P w.drew = .ok (.pointer (some ⟨g, 0, none⟩)) w.drew :=
    Lib.run_unsafeSliceData_row _ _ _ _ _ _ (by omega)
  have hUS : (Builtin.unsafeString_ #[(ρ.t 127), (ρ.t 3)] (ρ.t 9) #[.pointer (some ⟨g, 0, none⟩), .int .i64 l.length]).run P w.drew = .ok (.string ⟨l.toArray⟩) (w.drew.freeze ⟨g, 0, none⟩ l.length) := by
    refine Lib.run_unsafeString_row w.drew (ρ.t 127) (ρ.t 3) (ρ.t 9) (ρ.t 5) L.t127 X.cellsByte g cur.size (by have hg' : w.drew.heap[g]? = some (.cells cur (ρ.t 5) (0, 0)) := hg; simp [World.shape?, hg']) l h0 (by omega) (by unfold maxLen at hcm; omega) ?_
    intro j x hx
    have := hown.cells (g := g) rfl j (.int .u8 x.toNat) (by simp [Lib.byteCells, hx])
    exact this
  have hfin : Chg w (w.drew.freeze ⟨g, 0, none⟩ l.length) g none ∧ ∃ fr, (w.drew.freeze ⟨g, 0, none⟩ l.length).heap[g]? = some (.cells cur (ρ.t 5) fr) := by
    have hg' : w.drew.heap[g]? = some (.cells cur (ρ.t 5) (0, 0)) := hg
    unfold World.freeze
    rw [if_neg hl0]
    refine ⟨⟨rfl, rfl, rfl, by simp, fun k hk hkb _ => ?_⟩, ?_⟩
    · simp only [Array.getElem?_modify]
      rw [if_neg (by omega)]
      rfl
    · simp only [Array.getElem?_modify, if_true, hg', Option.map_some]
      exact ⟨_, rfl⟩
  have mixed := L.mixed
  have t72 := L.t72; have a72 := L.a72; have z72 := L.z72; have v72 := L.v72; have u72 := run_underlying L.t72
  have t70 := L.t70; have a70 := L.a70; have z70 := L.z70; have v70 := L.v70; have u70 := run_underlying L.t70
  have t37 := L.t37; have a37 := L.a37; have z37 := L.z37; have v37 := L.v37; have u37 := run_underlying L.t37
  have t127 := L.t127; have a127 := L.a127; have z127 := L.z127; have v127 := L.v127; have u127 := run_underlying L.t127
  have t3 := L.t3; have a3 := L.a3; have z3 := L.z3; have v3 := L.v3; have u3 := run_underlying L.t3
  have t9 := L.t9; have a9 := L.a9; have z9 := L.z9; have v9 := L.v9; have u9 := run_underlying L.t9
  have t5 := X.t5; have a5 := X.a5; have z5 := X.z5; have v5 := X.v5; have u5 := run_underlying X.t5
  go_enter L.f169, Body.n169_ntmps ρ
  go_wp2
  go_region_o
  all_goals (go_wp2; go_ret; exact ⟨rfl, hfin⟩)
end Go.Proofs.YtlglgcmpeabdnaaGreatDoorAi
end

section
/- Contracts: strings.Builder as an owned object: triples of WriteString and String. -/
namespace Go.Proofs.YtlglgcmpeabdnaaGreatDoorAi
open Go Go.RowKit Go.Shelf
set_option linter.unusedVariables false
set_option linter.unusedSimpArgs false
set_option maxRecDepth 20000

def bytesA (s : ByteArray) : List AV := s.data.toList.map fun x => .int .u8 x.toNat
@[simp] theorem bytesA_len (s : ByteArray) : (bytesA s).length = s.size := by simp [bytesA]
theorem bytesA_app (a b : ByteArray) : bytesA (a ++ b) = bytesA a ++ bytesA b := by
  unfold bytesA
  rw [ByteArray.data_append, Array.toList_append, List.map_append]
def unB : List AV → Option (List UInt8)
  | [] => some []
  | .int .u8 n :: r => if 0 ≤ n ∧ n < 256 then (unB r).map (UInt8.ofNat n.toNat :: ·) else none
  | _ => none
theorem unB_map : ∀ l : List UInt8, unB (l.map fun x => AV.int .u8 x.toNat) = some l
  | [] => rfl
  | x :: r => by
    have h := x.toNat_lt
    rw [List.map_cons, unB, if_pos ⟨by omega, by omega⟩, unB_map r]
    simp
theorem unB_bytes (s : ByteArray) : unB (bytesA s) = some s.data.toList := unB_map _
theorem unB_vals {σ : Sg} : ∀ (cs : List AV) (l : List UInt8) (vs : List Value), unB cs = some l → RepL σ cs vs → vs = Lib.byteCells l
  | [], l, vs, h, hr => by
    obtain rfl : [] = l := Option.some.inj h
    have := hr.1
    cases vs with
    | nil => rfl
    | cons _ _ => simp at this
  | c :: r, l, vs, h, hr => by
    obtain ⟨v, us, rfl, h1, h2⟩ := hr.head
    unfold unB at h
    split at h
    · rename_i heq; cases heq
    · rename_i n r' heq
      injection heq with e1 e2
      subst e1; subst e2
      split at h
      · rename_i hn
        obtain ⟨l', hl', rfl⟩ := Option.map_eq_some_iff.1 h
        have ih := unB_vals r l' us hl' h2
        subst ih
        cases h1
        simp only [Lib.byteCells, List.map_cons, List.cons.injEq, and_true, Value.int.injEq, true_and]
        have : (UInt8.ofNat n.toNat).toNat = n.toNat := by simp; omega
        omega
      · cases h
    · cases h
/-! ### memory that changes in one block and one row -/
theorem Sim.chg {B : Nat → Prop} {σ : Sg} {A : AHeap} {w w' : World} (h : Sim B σ A w) {c : Nat} {g : Option Nat} (hc : Chg w w' c g) (hBc : ¬ B c) (hBg : ∀ k, g = some k → ¬ B k) (hmc : σ.mem c = none) (hmg : ∀ k, g = some k → σ.mem k = none)
    (hlive : ∀ b cs c' n, A b = some cs → σ.nm b = some (c', n) → c' ≠ c ∧ some c' ≠ g) (hsame : ∀ (k : Nat), (k = c ∨ some k = g) → ∀ (cs : Array Value) (e : TypeId) (fr : Nat × Nat), w.heap[k]? = some (.cells cs e fr) → ∃ (cs' : Array Value) (fr' : Nat × Nat), w'.heap[k]? = some (.cells cs' e fr') ∧ cs'.size = cs.size) : Sim B σ A w' := by
  have hlt : ∀ (k : Nat) (o : Obj), w.heap[k]? = some o → k < w.heap.size := fun k o e => (Array.getElem?_eq_some_iff.1 e).1
  have hblk : ∀ (k : Nat) (cs : Array Value) (e : TypeId) (fr : Nat × Nat), w.heap[k]? = some (.cells cs e fr) → ∃ (cs' : Array Value) (fr' : Nat × Nat), w'.heap[k]? = some (.cells cs' e fr') ∧ cs'.size = cs.size := fun k cs e fr hk => by
    by_cases hx : k = c ∨ some k = g
    · exact hsame k hx cs e fr hk
    · exact ⟨cs, fr, by rw [hc.block k (hlt k _ hk) (fun e => hx (.inl e)) (fun e => hx (.inr e))]; exact hk, rfl⟩
  refine ⟨fun k hk => Nat.lt_of_lt_of_le (h.base k hk) hc.size, fun b o e => ?_, h.low, fun b k n e => ?_, h.tot, fun b cs e => (h.own b cs e).same fun k n hn => ?_, h.inj, fun k e he => ?_⟩
  · have h1 := h.mem b o e
    rw [hc.block b (hlt b _ h1) (fun hb => by rw [hb, hmc] at e; cases e) (fun hb => by rw [hmg b hb.symm] at e; cases e)]
    exact h1
  · obtain ⟨h1, cs, t, fr, h2, h3⟩ := h.nm b k n e
    obtain ⟨cs', fr', h4, h5⟩ := hblk k cs t fr h2
    exact ⟨h1, cs', t, fr', h4, by rw [h5, h3]⟩
  · obtain ⟨h1, h2⟩ := hlive b cs k n e hn
    exact hc.block k (h.nmLt hn) h1 h2
  · obtain ⟨cs, fr, h2⟩ := h.ty k e he
    obtain ⟨cs', fr', h4, _⟩ := hblk k cs e fr h2
    exact ⟨cs', fr', h4⟩
theorem Chg.keeps {B : Nat → Prop} {w0 w w' : World} {c : Nat} {g : Option Nat} (hc : Chg w w' c g) (hb : Keeps B w0 w) (hlt : ∀ k, B k → k < w.heap.size) (hBc : ¬ B c) (hBg : ∀ k, g = some k → ¬ B k) : Keeps B w0 w' :=
  hb.trans ⟨hc.os, hc.tape, hc.output, hc.size, fun k hk => hc.block k (hlt k hk) (fun e => hBc (e ▸ hk)) (fun e => hBg k e.symm hk)⟩
/-- An object is owned again. -/
theorem Sim.revive {B : Nat → Prop} {σ : Sg} {A : AHeap} {w : World} (h : Sim B σ A w) {b c : Nat} {cur : Array Value} {e : TypeId} (hn : σ.nm b = some (c, cur.size)) (hB : ¬ B c) (hm : σ.mem c = none) (hh : w.heap[c]? = some (.cells cur e (0, 0)))
    (cs : List AV) (hl : cs.length ≤ cur.size) (hr : ∀ (j : Nat) x, cs[j]? = some x → ∃ v, cur[j]? = some v ∧ Rep σ x v ∧ v.oneCell' = true) (ho : ∀ b' cs' n, A b' = some cs' → σ.nm b' ≠ some (c, n)) : Sim B σ (A.set b cs) w := by
  refine ⟨h.base, h.mem, h.low, fun i c n e => by rw [AHeap.set_n]; exact h.nm i c n e, fun i hi => h.tot i (by simpa using hi), fun i ob hi => ?_, fun i i' o o' c1 n n' e1 e2 e3 e4 => ?_, h.ty⟩
  · rw [AHeap.set_at] at hi
    split at hi
    · rename_i hib
      obtain rfl := Option.some.inj hi
      rw [hib.1]
      exact ⟨c, cur, e, hn, hB, hm, hh, hl, hr⟩
    · exact h.own i ob hi
  · rw [AHeap.set_at] at e1 e2
    split at e1
    · rename_i h1
      split at e2
      · rename_i h2
        exact h1.1.trans h2.1.symm
      · rename_i h2
        rw [h1.1, hn] at e3
        injection e3 with e3; injection e3 with e3 _
        subst e3
        exact absurd e4 (ho i' o' n' e2)
    · rename_i h1
      split at e2
      · rename_i h2
        rw [h2.1, hn] at e4
        injection e4 with e4; injection e4 with e4 _
        subst e4
        exact absurd e3 (ho i o n e1)
      · exact h.inj i i' _ _ c1 n n' e1 e2 e3 e4
/-! ### WriteString -/
/-- The number of the type strings.Builder. -/
def bT : TypeId := Tryz.lays156_ren.t 72
def wsR (n : Nat) : AV := .tup [.int .i64 n, .nili]
/-- The heap behind a write: `b`'s object shows a new row. -/
def wsH (A A0 : AHeap) (b n : Nat) (cs : List AV) : AHeap := (A0.push cs).set b [.ptr b 0, .ref A.n 1 0 n .u8]
def spWS : List AV → AHeap → Option (AV × AHeap)
  | [.ep (.ptr b 0) e 0, .str s], A => if e = bT then (A b).bind fun o => match o with
      | [.nilp, .sl [] true] => if s.size ≠ 0 ∧ s.size ≤ 140737488355328 then some (wsR s.size, wsH A (A.del b) b s.size (bytesA s)) else none
      | [.ptr b' 0, .ref k 1 0 n .u8] => if b' = b ∧ k ≠ b ∧ n ≠ 0 ∧ n + s.size ≤ 140737488355328 then (A k).bind fun cs => if cs.length = n then some (wsR s.size, wsH A ((A.del b).del k) b (n + s.size) (cs ++ bytesA s)) else none else none
      | _ => none else none
  | _, _ => none
theorem bytes_rep (σ : Sg) (s : ByteArray) : RepL σ (bytesA s) (Lib.strCells s) := by
  refine ⟨by simp [Lib.strCells_length], fun i c v hc hv => ?_⟩
  simp only [bytesA, List.getElem?_map, Option.map_eq_some_iff] at hc
  obtain ⟨x, hx, rfl⟩ := hc
  simp only [Lib.strCells, List.getElem?_map, hx, Option.map_some, Option.some.injEq] at hv
  subst hv
  exact .int _ _
theorem strCells_one {s : ByteArray} : ∀ v ∈ Lib.strCells s, v.oneCell' = true := by
  intro v hv
  simp only [Lib.strCells, List.mem_map] at hv
  obtain ⟨x, _, rfl⟩ := hv
  rfl
/-- What a write leaves, in triples' words. -/
theorem ws_end {B : Nat → Prop} {w0 w w' : World} {σ : Sg} {A A0 : AHeap} (hs : Sim B σ A w) (hb : Keeps B w0 w) {b c : Nat} {g : Option Nat} {s : ByteArray} {v' : Value} {cs : List AV} {xs : List Value} (hnc : σ.nm b = some (c, 2)) (hBc : ¬ B c) (hmc : σ.mem c = none) (hBg : ∀ k, g = some k → ¬ B k) (hmg : ∀ k, g = some k → σ.mem k = none)
    (hA0 : A0.le A) (hAn : A0.n = A.n) (hbA : b < A.n) (hlive : ∀ b' cs c' n, A0 b' = some cs → σ.nm b' = some (c', n) → c' ≠ c ∧ some c' ≠ g) (hc : Chg w w' c g)
    (hsame : ∀ (k : Nat), (k = c ∨ some k = g) → ∀ (cs : Array Value) (e : TypeId) (fr : Nat × Nat), w.heap[k]? = some (.cells cs e fr) → ∃ (cs' : Array Value) (fr' : Nat × Nat), w'.heap[k]? = some (.cells cs' e fr') ∧ cs'.size = cs.size)
    {te : TypeId} (hbk : w'.heap[c]? = some (.cells #[.pointer (some ⟨c, 0, none⟩), v'] te (0, 0))) (hte : te ≠ u8T) {n : Nat} (hn : n ≠ 0) (hown : w'.ownsRow 0 u8T 1 v' n xs) (hcs : RepL σ cs xs) (hone : ∀ v ∈ xs, v.oneCell' = true)
    (hfr : v'.ownBlock = g ∨ ∃ k, v'.ownBlock = some k ∧ w.heap.size ≤ k) :
    ∃ σ', σ.Le σ' ∧ Sim B σ' (wsH A A0 b n cs) w' ∧ Keeps B w0 w' := by
  obtain ⟨g', cap, cur, rfl, _, hg', hnc', hcm, hcs', htake⟩ : ∃ g' cap cur, v' = .slice (some ⟨g', 0, none⟩) n cap ∧ 0 ≤ g' ∧ w'.heap[g']? = some (.cells cur u8T (0, 0)) ∧ n ≤ cap ∧ cap ≤ maxLen ∧ cur.size = cap * 1 ∧ cur.toList.take (n * 1) = xs := by
    rcases hown.2 with ⟨_, hz⟩ | ⟨g', cap, cur, hv, r⟩
    · exact absurd hz hn
    · exact ⟨g', cap, cur, hv, r⟩
  rw [Nat.mul_one] at hcs' htake
  have hk : Keeps B w0 w' := hc.keeps hb hs.base hBc hBg
  have h0 : Sim B σ A0 w' := (hs.drop hA0 hAn).chg hc hBc hBg hmc hmg hlive hsame
  have hfresh : ∀ k, w.heap.size ≤ k → ¬ B k ∧ σ.mem k = none ∧ ∀ b n, σ.nm b ≠ some (k, n) := fun k hk => ⟨fun hB => by have := hs.base k hB; omega, by
    cases e : σ.mem k with
    | none => rfl
    | some o => have := (Array.getElem?_eq_some_iff.1 (hs.mem _ _ e)).1; omega, fun b n e => by have := hs.nmLt e; omega⟩
  have hgg : ¬ B g' ∧ σ.mem g' = none ∧ ∀ b' cs n, A0 b' = some cs → σ.nm b' ≠ some (g', n) := by
    rcases hfr with hfr | ⟨k, hfr, hle⟩
    · have hfr : some g' = g := hfr
      exact ⟨hBg g' hfr.symm, hmg g' hfr.symm, fun b' cs n h1 h2 => (hlive b' cs g' n h1 h2).2 hfr⟩
    · have hfr : some g' = some k := hfr
      obtain rfl := Option.some.inj hfr
      obtain ⟨k1, k2, k3⟩ := hfresh g' hle
      exact ⟨k1, k2, fun b' cs n h1 h2 => k3 b' n h2⟩
  have hgc : g' ≠ c := fun e => by
    rw [e, hbk] at hg'
    injection hg' with hg'; injection hg' with _ h2 _
    exact hte h2
  have hlen : cs.length = n := by have := hcs.1; have h2 := hown.1; omega
  obtain ⟨l1, s1⟩ := h0.name (c := g') (cur := cur) (e := u8T) (cs := cs) hgg.1 hgg.2.1 hg' (by omega) (fun j x hx => by
    have hlt : j < xs.length := by rw [← hcs.1]; exact (List.getElem?_eq_some_iff.1 hx).1
    obtain ⟨u, hv⟩ : ∃ u, xs[j]? = some u := ⟨_, List.getElem?_eq_getElem hlt⟩
    refine ⟨u, ?_, hcs.2 j x _ hx hv, hone _ (List.mem_of_getElem? hv)⟩
    have h3 := hv
    rw [← htake, List.getElem?_take] at h3
    split at h3
    · rw [Array.getElem?_toList] at h3; rw [h3]
    · cases h3) hgg.2.2
  rw [hAn] at l1 s1
  obtain ⟨l2, s2⟩ := s1.withTy (c := g') (e := u8T) ⟨_, _, hg'⟩
  have hnm2 : ((σ.withNm A.n g' cur.size).withTy g' u8T).nm b = some (c, 2) := (l1.trans l2).nm b _ hnc
  have hnmN : ((σ.withNm A.n g' cur.size).withTy g' u8T).nm A.n = some (g', cur.size) := by simp [Sg.withTy, Sg.withNm]
  have s3 := s2.revive (b := b) (c := c) (cur := #[.pointer (some ⟨c, 0, none⟩), .slice (some ⟨g', 0, none⟩) n cap]) (e := te) hnm2 hBc hmc hbk [.ptr b 0, .ref A.n 1 0 n .u8] (by simp) (fun j x hx => by
    match j, hx with
    | 0, hx =>
      obtain rfl := Option.some.inj hx
      exact ⟨_, rfl, .ptr b 0 c 2 hnm2, rfl⟩
    | 1, hx =>
      obtain rfl := Option.some.inj hx
      exact ⟨_, rfl, .ref A.n 1 0 n .u8 ⟨g', 0, none⟩ cap g' cur.size hnc' hcm (fun h => by cases h) (fun _ => rfl) hnmN (by omega) (fun h => by cases h) (fun _ => ⟨by omega, by simp [Sg.withTy]⟩), rfl⟩
    | j + 2, hx => cases hx) (fun b' cs' m h1 h2 => by
    have h2 : (if b' = A.n then some (g', cur.size) else σ.nm b') = some (c, m) := h2
    split at h2
    · injection h2 with h2; injection h2 with h2 _
      exact hgc h2
    · rename_i hne
      rw [AHeap.push_at, hAn, if_neg hne] at h1
      exact (hlive b' cs' c m h1 h2).1 rfl)
  exact ⟨_, l1.trans l2, s3, hk⟩
theorem lays166 : Lays.n166 Tryz.prog Tryz.lays156_ren := { Tryz.lays156 with }
theorem lays169 : Lays.n169 Tryz.prog Tryz.lays156_ren := { Tryz.lays156 with }
theorem bT_ne : bT ≠ u8T := Tryz.Builder_Extra_156.neB5
/-- A builder's object, of which the type is known. -/
theorem bObj {B : Nat → Prop} {σ : Sg} {A : AHeap} {w : World} (hs : Sim B σ A w) {b c : Nat} {x y : AV} (hb : A b = some [x, y]) (hn : σ.nm b = some (c, 2)) (hty : σ.ty c = some bT) :
    ¬ B c ∧ σ.mem c = none ∧ ∃ p v, w.heap[c]? = some (.cells #[p, v] bT (0, 0)) ∧ Rep σ x p ∧ Rep σ y v := by
  obtain ⟨c', cur, te, k1, k2, k3, k4, k5, k6⟩ := hs.own b _ hb
  rw [hn] at k1
  injection k1 with k1; injection k1 with e1 e2
  subst e1
  obtain ⟨cs1, fr1, h4⟩ := hs.ty c _ hty
  rw [k4] at h4
  injection h4 with h4; injection h4 with _ h5 _
  subst h5
  obtain ⟨p, p1, p2, _⟩ := k6 0 x rfl
  obtain ⟨v, v1, v2, _⟩ := k6 1 y rfl
  have hc : cur = #[p, v] := by
    apply Array.ext
    · exact e2.symm
    · intro i h1 h2
      match i, h1, h2 with
      | 0, h1, h2 => rw [Array.getElem?_eq_getElem h1] at p1; simpa using Option.some.inj p1
      | 1, h1, h2 => rw [Array.getElem?_eq_getElem h1] at v1; simpa using Option.some.inj v1
      | i + 2, h1, h2 => simp at h2; omega
  subst hc
  exact ⟨k2, k3, p, v, k4, p2, v2⟩
/-- The row of a builder. -/
theorem bRow {B : Nat → Prop} {σ : Sg} {A : AHeap} {w : World} (hs : Sim B σ A w) {k n : Nat} {cs : List AV} (hk : A k = some cs) (hl : cs.length = n) (hn : n ≠ 0) {v : Value} (hr : Rep σ (.ref k 1 0 n .u8) v) :
    ∃ g cap cur sz, σ.nm k = some (g, sz) ∧ v = .slice (some ⟨g, 0, none⟩) n cap ∧ ¬ B g ∧ σ.mem g = none ∧ w.heap[g]? = some (.cells cur u8T (0, 0)) ∧ n ≤ cap ∧ cap ≤ maxLen ∧ cur.size = cap ∧ RepL σ cs (cur.toList.take n) ∧ ∀ v ∈ cur.toList.take n, v.oneCell' = true := by
  obtain ⟨ad, cap, g, sz, rfl, h1, h2, h3, h4, h5, h6, h7, h8⟩ := hr.refInv
  obtain ⟨h9, h10⟩ := h8 rfl
  obtain ⟨g', cur, te, k1, k2, k3, k4, k5, k6⟩ := hs.own k _ hk
  have k0 := h5
  rw [h5] at k1
  injection k1 with k1; injection k1 with e1 e2
  subst e1
  obtain ⟨cs1, fr1, h11⟩ := hs.ty g _ h10
  rw [k4] at h11
  injection h11 with h11; injection h11 with _ h12 _
  subst h12
  have had := h4 (by omega)
  subst had
  have hll : (cur.toList.take n).length = n := by rw [List.length_take, Array.length_toList]; omega
  have hget : ∀ (j : Nat) (u : Value), (cur.toList.take n)[j]? = some u → cur[j]? = some u := fun j u hu => by
    rw [List.getElem?_take] at hu
    split at hu
    · simpa using hu
    · cases hu
  refine ⟨g, cap, cur, sz, k0, by simp, k2, k3, k4, h1, h2, by omega, ⟨by omega, fun i c u hc hu => ?_⟩, fun u hu => ?_⟩
  · obtain ⟨u', u1, u2, _⟩ := k6 i c hc
    rw [hget i u hu] at u1
    obtain rfl := Option.some.inj u1
    exact u2
  · obtain ⟨i, hi⟩ := List.mem_iff_getElem?.1 hu
    have hlt : i < cs.length := by have := (List.getElem?_eq_some_iff.1 hi).1; omega
    obtain ⟨u', u1, _, u3⟩ := k6 i cs[i] (List.getElem?_eq_getElem hlt)
    rw [hget i u hi] at u1
    obtain rfl := Option.some.inj u1
    exact u3
theorem e_strings_Builder_WriteString : QE PP 49 spWS := by
  intro args A r A1 e
  refine ⟨⟨_, Tryz.func49, by kernel_rfl, by kernel_rfl⟩, fun B w0 σ w vs hG hb hs ha => ?_⟩
  have X := Tryz.Builder_Extra_156
  obtain ⟨i0, hi, hz0, hz1, hz2⟩ := info_parts X.infoByte
  have t37 := lays166.t37
  have t9 := lays166.t9
  unfold spWS at e
  split at e
  · rename_i b t s
    split at e
    · rename_i hbt
      replace e := Option.bind_eq_some_iff.1 e
      obtain ⟨o, ho, e⟩ := e
      obtain ⟨pv, us, rfl, r1, r2⟩ := ha.head
      obtain ⟨sv, us2, rfl, r3, r4⟩ := r2.head
      obtain rfl : us2 = [] := List.eq_nil_of_length_eq_zero r4.1.symm
      cases r3
      cases r1 with
      | eptr _ _ c hn hty =>
      rw [hbt] at hty
      have hbA : b < A.n := AHeap.lt ho
      split at e
      · split at e
        · rename_i hsz
          obtain ⟨rfl, rfl⟩ := Prod.mk.inj (Option.some.inj e)
          obtain ⟨hBc, hmc, p, v, hh, hp, hv⟩ := bObj hs ho hn hty
          cases hp
          have hv' : ∃ a, v = .slice a 0 0 := by
            cases hv with
            | slnil _ a cap h1 h2 h3 => exact ⟨a, by rw [h1 rfl]⟩
            | sl _ _ b' off s' cap val h1 h2 h3 => exact ⟨_, by rw [h3 rfl]; rfl⟩
          obtain ⟨a, rfl⟩ := hv'
          refine (bWrite lays166 X c _ _ s w none s.size (Lib.strCells s) (.inl rfl) hh (by simp) (fun w1 hc1 hsz1 => ?_)).mono ?_
          · obtain ⟨v', w', hr, h2, h3, h4⟩ := bApp0 (P := Tryz.prog) w1 _ _ 0 _ i0 t37 t9 hi hz0 hz1 hz2 a s hsz.1 (by unfold maxLen; omega) hsz.2
            exact ⟨v', w', hr, h2, h3, .inr h4, fun g' cs hg => (by cases hg)⟩
          · rintro e w' ⟨rfl, hc, v', hbk, hown, hfr, hrow⟩
            obtain ⟨σ', s1, s2, s3⟩ := ws_end (A0 := A.del b) (s := s) (te := bT) (n := s.size) (cs := bytesA s) hs hb hn hBc hmc (fun k h => (by cases h)) (fun k h => (by cases h)) (AHeap.del_le A b) (AHeap.del_n A b) hbA (fun b' cs c' m h1 h2 => ⟨fun hcc => by
              rw [AHeap.del_at] at h1
              split at h1
              · cases h1
              · rename_i hne
                subst hcc
                exact hne (hs.inj _ _ _ _ _ _ _ h1 ho h2 hn), by simp⟩) hc (fun k hk cs e fr he => by
              rcases hk with rfl | hk
              · rw [hh] at he
                injection he with he; injection he with e1 e2 e3
                subst e1; subst e2
                exact ⟨_, _, hbk, rfl⟩
              · cases hk) hbk bT_ne hsz.1 hown (bytes_rep _ _) strCells_one hfr
            exact ⟨_, _, _, σ', rfl, ⟨rfl, rfl⟩, s1, s2, .tup [.int .i64 s.size, .nili] [.int .i64 s.size, .nilIface] rfl (fun i c v h1 h2 => by
              match i, h1, h2 with
              | 0, h1, h2 => obtain rfl := Option.some.inj h1; obtain rfl := Option.some.inj h2; exact .int _ _
              | 1, h1, h2 => obtain rfl := Option.some.inj h1; obtain rfl := Option.some.inj h2; exact .nili
              | i + 2, h1, h2 => cases h1), s3⟩
        · cases e
      · rename_i b' k n
        split at e
        · rename_i hcond
          obtain ⟨hbb, hkb, hn0, hle⟩ := hcond
          obtain rfl : b = b' := hbb.symm
          replace e := Option.bind_eq_some_iff.1 e
          obtain ⟨cs, hk, e⟩ := e
          split at e
          · rename_i hlen
            obtain ⟨rfl, rfl⟩ := Prod.mk.inj (Option.some.inj e)
            obtain ⟨hBc, hmc, p, v, hh, hp, hv⟩ := bObj hs ho hn hty
            have hp' : p = .pointer (some ⟨c, 0, none⟩) := by
              cases hp with
              | ptr _ _ c2 sz h1 => rw [hn] at h1; injection h1 with h1; injection h1 with h1 _; rw [h1]
            subst hp'
            obtain ⟨g, cap, cur, sz, hnk, rfl, hBg, hmg, hg, h1, h2, h3, h4, h5⟩ := bRow hs hk hlen hn0 hv
            have hgc : g ≠ c := fun e => hkb (hs.inj _ _ _ _ _ _ _ hk ho (by rw [hnk, e]) hn)
            refine (bWrite lays166 X c _ _ s w (some g) (n + s.size) (cur.toList.take n ++ Lib.strCells s) (.inr rfl) hh (fun e => hgc (Option.some.inj e)) (fun w1 hc1 hsz1 => ?_)).mono ?_
            · have hg1 : w1.heap[g]? = some (.cells cur u8T (0, 0)) := by
                rw [hc1.block g (Array.getElem?_eq_some_iff.1 hg).1 hgc (by simp)]; exact hg
              obtain ⟨v', w', hr, h6, h7, h8, h9⟩ := bApp (P := Tryz.prog) w1 _ _ 0 _ i0 t37 t9 hi hz0 hz1 hz2 (.slice (some ⟨g, 0, none⟩) n cap) n (cur.toList.take n) ⟨by rw [List.length_take, Array.length_toList]; omega, .inr ⟨g, cap, cur, rfl, Nat.zero_le _, hg1, h1, h2, by omega, by rw [Nat.mul_one]⟩⟩ s (by unfold maxLen; omega) hle
              exact ⟨v', w', hr, h6, h7, h8, h9⟩
            · rintro e w' ⟨rfl, hc, v', hbk, hown, hfr, hrow⟩
              obtain ⟨σ', s1, s2, s3⟩ := ws_end (A0 := (A.del b).del k) (s := s) (te := bT) (n := n + s.size) (cs := cs ++ bytesA s) hs hb hn hBc hmc (fun k' h => by obtain rfl := Option.some.inj h; exact hBg) (fun k' h => by obtain rfl := Option.some.inj h; exact hmg) ((AHeap.del_le _ k).trans (AHeap.del_le A b)) (by rw [AHeap.del_n, AHeap.del_n]) hbA (fun b' cs c' m h1 h2 => by
                rw [AHeap.del_at, AHeap.del_at] at h1
                split at h1
                · cases h1
                · rename_i hne1
                  split at h1
                  · cases h1
                  · rename_i hne2
                    refine ⟨fun hcc => ?_, fun hcc => ?_⟩
                    · subst hcc
                      exact hne2 (hs.inj _ _ _ _ _ _ _ h1 ho h2 hn)
                    · obtain rfl := Option.some.inj hcc
                      exact hne1 (hs.inj _ _ _ _ _ _ _ h1 hk h2 hnk)) hc (fun k' hk' cs e fr he => by
                rcases hk' with rfl | hk'
                · rw [hh] at he
                  injection he with he; injection he with e1 e2 e3
                  subst e1; subst e2
                  exact ⟨_, _, hbk, rfl⟩
                · obtain rfl := Option.some.inj hk'
                  rw [hg] at he
                  injection he with he; injection he with e1 e2 e3
                  subst e1; subst e2
                  obtain ⟨cs', q1, q2⟩ := hrow _ _ rfl hg
                  exact ⟨cs', _, q1, q2⟩) hbk bT_ne (by omega) hown (h4.append (bytes_rep _ _)) (fun v hv => by
                rcases List.mem_append.1 hv with hv | hv
                · exact h5 v hv
                · exact strCells_one v hv) hfr
              exact ⟨_, _, _, σ', rfl, ⟨rfl, rfl⟩, s1, s2, .tup [.int .i64 s.size, .nili] [.int .i64 s.size, .nilIface] rfl (fun i c v h1 h2 => by
                match i, h1, h2 with
                | 0, h1, h2 => obtain rfl := Option.some.inj h1; obtain rfl := Option.some.inj h2; exact .int _ _
                | 1, h1, h2 => obtain rfl := Option.some.inj h1; obtain rfl := Option.some.inj h2; exact .nili
                | i + 2, h1, h2 => cases h1), s3⟩
          · cases e
        · cases e
      · cases e
    · cases e
  · cases e
/-! ### String -/
def spBS : List AV → AHeap → Option (AV × AHeap)
  | [.ep (.ptr b 0) e 0], A => if e = bT then (A b).bind fun o => match o with
      | [.ptr b' 0, .ref k 1 0 n .u8] => if b' = b ∧ k ≠ b ∧ n ≠ 0 then (A k).bind fun cs => if cs.length = n then (unB cs).map fun l => (.str ⟨l.toArray⟩, A.del k) else none else none
      | _ => none else none
  | _, _ => none
theorem e_strings_Builder_String : QE PP 53 spBS := by
  intro args A r A1 e
  refine ⟨⟨_, Tryz.func53, by kernel_rfl, by kernel_rfl⟩, fun B w0 σ w vs hG hb hs ha => ?_⟩
  have X := Tryz.Builder_Extra_156
  unfold spBS at e
  split at e
  · rename_i b t
    split at e
    · rename_i hbt
      replace e := Option.bind_eq_some_iff.1 e
      obtain ⟨o, ho, e⟩ := e
      obtain ⟨pv, us, rfl, r1, r4⟩ := ha.head
      obtain rfl : us = [] := List.eq_nil_of_length_eq_zero r4.1.symm
      cases r1 with
      | eptr _ _ c hn hty =>
      rw [hbt] at hty
      split at e
      · rename_i b' k n
        split at e
        · rename_i hcond
          obtain ⟨hbb, hkb, hn0⟩ := hcond
          obtain rfl : b = b' := hbb.symm
          replace e := Option.bind_eq_some_iff.1 e
          obtain ⟨cs, hk, e⟩ := e
          split at e
          · rename_i hlen
            replace e := Option.map_eq_some_iff.1 e
            obtain ⟨l, hl, e⟩ := e
            obtain ⟨rfl, rfl⟩ := Prod.mk.inj e
            obtain ⟨hBc, hmc, p, v, hh, hp, hv⟩ := bObj hs ho hn hty
            obtain ⟨g, cap, cur, sz, hnk, rfl, hBg, hmg, hg, h1, h2, h3, h4, h5⟩ := bRow hs hk hlen hn0 hv
            have hbl := unB_vals cs l _ hl h4
            have hll : l.length = n := by
              have := congrArg List.length hbl
              rw [Lib.byteCells_length, List.length_take, Array.length_toList] at this
              omega
            subst hll
            refine (bString lays169 X c g cap p cur l w hh (fun e => hn0 (by rw [e]; rfl)) hg h1 h2 h3 hbl).mono ?_
            rintro e w' ⟨rfl, hc, fr, hg'⟩
            refine ⟨_, _, _, σ, rfl, ⟨rfl, rfl⟩, .refl σ, (hs.drop (AHeap.del_le A k) (AHeap.del_n A k)).chg hc hBg (fun k' h => (by cases h)) hmg (fun k' h => (by cases h)) (fun b' cs c' m h1 h2 => ⟨fun hcc => ?_, by simp⟩) (fun k' hk' cs e fr' he => ?_), .str _, hc.keeps hb hs.base hBg (fun k' h => (by cases h))⟩
            · rw [AHeap.del_at] at h1
              split at h1
              · cases h1
              · rename_i hne
                subst hcc
                exact hne (hs.inj _ _ _ _ _ _ _ h1 hk h2 hnk)
            · rcases hk' with rfl | hk'
              · rw [hg] at he
                injection he with he; injection he with e1 e2 e3
                subst e1; subst e2
                exact ⟨_, _, hg', rfl⟩
              · cases hk'
          · cases e
        · cases e
      · cases e
    · cases e
  · cases e
end Go.Proofs.YtlglgcmpeabdnaaGreatDoorAi
end

section
/- Contracts and law: FlagText. -/
namespace Go.Proofs.YtlglgcmpeabdnaaGreatDoorAi
open Go Go.RowKit
set_option linter.unusedVariables false
set_option linter.unusedSimpArgs false
set_option maxRecDepth 20000

noncomputable def sp_toFlag : List AV → Option (AV) := pf (ι := (Int) × (Int) × (Int)) (α := AV) (fun ⟨k, n, e⟩ => True) (fun ⟨k, n, e⟩ => [.agg [.int .i64 k, .int .i64 n, .int .u32 e]]) (fun ⟨k, n, e⟩ => .agg [.int .i64 k, .int .i64 n, .int .u32 e])
theorem sp_toFlag_eq (k n e : Int) : sp_toFlag [.agg [.int .i64 k, .int .i64 n, .int .u32 e]] = some (.agg [.int .i64 k, .int .i64 n, .int .u32 e]) := by
  unfold sp_toFlag
  exact pf_eq (ι := (Int) × (Int) × (Int)) (α := AV) (k, n, e) trivial (by rintro ⟨k', n', e'⟩ _ e; simp_all [Int.natCast_inj])
attribute [simp] sp_toFlag_eq
end Go.Proofs.YtlglgcmpeabdnaaGreatDoorAi
end

section
/- Contracts: texts of matrices of the program. -/
namespace Go.Proofs.YtlglgcmpeabdnaaGreatDoorAi
open Go Go.RowKit
set_option linter.unusedVariables false
set_option linter.unusedSimpArgs false
set_option maxRecDepth 20000

def lineB : ByteArray := ⟨#[10]⟩
end Go.Proofs.YtlglgcmpeabdnaaGreatDoorAi
end

section
/- MADE BY PROGRAM (wip/tools/gen.py): the abstract code of functions. -/
namespace Go.Proofs.YtlglgcmpeabdnaaGreatDoorAi
open Go AC AOp Opd
set_option linter.unusedVariables false
set_option maxRecDepth 100000
def c_impl_Pattern_text : AC := seq (reg [⟨(some 2), mv (c (.str ⟨#[]⟩)), none⟩]) (seq (reg [⟨(some 5), bld [.nilp, .sl [] true] [], none⟩, ⟨(some 3), allocb 85, none⟩, ⟨none, st (t 3) 2 (t 5), none⟩]) (seq (reg [⟨(some 6), mv (t 0), none⟩, ⟨(some 7), nilc (t 6), none⟩, ⟨(some 8), fad (t 7) 0, none⟩, ⟨(some 9), ld (t 8) 2 true, none⟩, ⟨(some 10), callq (c (.fn 84 [])) [t 9], none⟩, ⟨(some 11), bin .add (c (.str ⟨#[112, 97, 116, 116, 101, 114, 110, 32]⟩)) (t 10), none⟩, ⟨(some 12), bin .add (t 11) (c (.str ⟨#[10]⟩)), none⟩, ⟨(some 13), bin .add (t 12) (c (.str ⟨#[108, 111, 111, 112, 115]⟩)), none⟩, ⟨(some 14), calle (c (.fn 49 [])) [t 3, t 13] [], none⟩]) (seq (seq (reg [⟨(some 15), mv (t 0), none⟩, ⟨(some 16), nilc (t 15), none⟩, ⟨(some 17), fad (t 16) 0, none⟩, ⟨(some 18), fad (t 17) 0, none⟩, ⟨(some 19), ld (t 18) 1 false, none⟩, ⟨(some 20), mv (c (.int .i64 0)), none⟩]) (block 0 (loop (seq (reg [⟨(some 21), bin .lss (t 20) (t 19), none⟩]) (seq (cond (t 21) (skip) (exit 0)) (seq (block 1 (seq (reg [⟨(some 22), mv (t 20), none⟩, ⟨(some 4), mv (t 22), none⟩]) (seq (reg [⟨(some 23), mv (t 0), none⟩, ⟨(some 24), mv (t 4), none⟩, ⟨(some 25), calle (c (.fn 93 [])) [t 23, t 24] [], none⟩]) (cond (t 25) (reg [⟨(some 26), mv (t 4), none⟩, ⟨(some 27), callq (c (.fn 50 [])) [t 26], none⟩, ⟨(some 28), bin .add (c (.str ⟨#[32]⟩)) (t 27), none⟩, ⟨(some 29), calle (c (.fn 49 [])) [t 3, t 28] [], none⟩]) (skip))))) (reg [⟨(some 30), bin .add (t 20) (c (.int .i64 1)), none⟩, ⟨(some 20), mv (t 30), none⟩]))))))) (seq (reg [⟨(some 31), mv (t 0), none⟩, ⟨(some 32), nilc (t 31), none⟩, ⟨(some 33), fad (t 32) 3, none⟩, ⟨(some 34), ld (t 33) 1 false, none⟩, ⟨(some 35), callq (c (.fn 94 [])) [t 34], none⟩, ⟨(some 36), bin .add (c (.str ⟨#[10, 119, 101, 105, 103, 104, 116, 115, 32]⟩)) (t 35), none⟩, ⟨(some 37), bin .add (t 36) (c (.str ⟨#[10]⟩)), none⟩, ⟨(some 38), calle (c (.fn 49 [])) [t 3, t 37] [], none⟩]) (seq (reg [⟨(some 39), calle (c (.fn 53 [])) [t 3] [], none⟩, ⟨(some 2), mv (t 39), none⟩]) (ret))))))
def r_impl_Pattern_text : List ARes := [.tmp 2]
theorem k_impl_Pattern_text : acLin Go.Proofs.Tryz.prog 39 1 (inQ [50, 84, 94] [49, 53, 93]) [] = some (c_impl_Pattern_text, r_impl_Pattern_text) := by kernel_rfl
def c_spec_PatternText : AC := seq (reg [⟨(some 1), box 4 (t 0), none⟩, ⟨(some 2), mv (c (.str ⟨#[]⟩)), none⟩]) (seq (seq (reg [⟨(some 6), calle (c (.fn 30 [])) [t 1] [], none⟩, ⟨(some 7), un .not (t 6), none⟩]) (cond (t 7) (seq (reg [⟨(some 2), mv (c (.str ⟨#[]⟩)), none⟩]) (ret)) (skip))) (seq (reg [⟨(some 8), fad (t 1) 0, none⟩, ⟨(some 9), ld (t 8) 2 true, none⟩, ⟨(some 10), callq (c (.fn 68 [])) [t 9], none⟩, ⟨(some 11), bin .add (c (.str ⟨#[112, 97, 116, 116, 101, 114, 110, 32]⟩)) (t 10), none⟩, ⟨(some 12), bin .add (t 11) (c (.str ⟨#[10, 108, 111, 111, 112, 115]⟩)), none⟩, ⟨(some 3), mv (t 12), none⟩]) (seq (seq (reg [⟨(some 4), mv (c (.int .i64 0)), none⟩]) (block 0 (loop (seq (seq (reg [⟨(some 13), mv (t 4), none⟩, ⟨(some 14), fad (t 1) 0, none⟩, ⟨(some 15), fad (t 14) 0, none⟩, ⟨(some 16), ld (t 15) 1 false, none⟩, ⟨(some 17), bin .lss (t 13) (t 16), none⟩]) (cond (t 17) (skip) (exit 0))) (seq (block 1 (seq (reg [⟨(some 20), mv (t 4), none⟩, ⟨(some 21), mv (t 4), none⟩, ⟨(some 22), calle (c (.fn 77 [])) [t 1, t 20, t 21] [], none⟩]) (cond (t 22) (reg [⟨(some 23), mv (t 3), none⟩, ⟨(some 24), mv (t 4), none⟩, ⟨(some 25), callq (c (.fn 78 [])) [t 24], none⟩, ⟨(some 26), bin .add (c (.str ⟨#[32]⟩)) (t 25), none⟩, ⟨(some 27), bin .add (t 23) (t 26), none⟩, ⟨(some 3), mv (t 27), none⟩]) (skip)))) (reg [⟨(some 18), mv (t 4), none⟩, ⟨(some 19), bin .add (t 18) (c (.int .i64 1)), none⟩, ⟨(some 4), mv (t 19), none⟩])))))) (seq (reg [⟨(some 28), mv (t 3), none⟩, ⟨(some 29), bin .add (t 28) (c (.str ⟨#[10, 119, 101, 105, 103, 104, 116, 115]⟩)), none⟩, ⟨(some 3), mv (t 29), none⟩]) (seq (seq (reg [⟨(some 5), mv (c (.int .i64 0)), none⟩]) (block 2 (loop (seq (seq (reg [⟨(some 30), mv (t 5), none⟩, ⟨(some 31), fad (t 1) 3, none⟩, ⟨(some 32), ld (t 31) 1 false, none⟩, ⟨(some 33), len (t 32), none⟩, ⟨(some 34), bin .lss (t 30) (t 33), none⟩]) (cond (t 34) (skip) (exit 2))) (seq (block 3 (reg [⟨(some 37), mv (t 3), none⟩, ⟨(some 38), fad (t 1) 3, none⟩, ⟨(some 39), ld (t 38) 1 false, none⟩, ⟨(some 40), mv (t 5), none⟩, ⟨(some 41), iad 2 (t 39) (t 40), none⟩, ⟨(some 42), ld (t 41) 2 true, none⟩, ⟨(some 43), callq (c (.fn 71 [])) [t 42], none⟩, ⟨(some 44), bin .add (c (.str ⟨#[32]⟩)) (t 43), none⟩, ⟨(some 45), bin .add (t 37) (t 44), none⟩, ⟨(some 3), mv (t 45), none⟩])) (reg [⟨(some 35), mv (t 5), none⟩, ⟨(some 36), bin .add (t 35) (c (.int .i64 1)), none⟩, ⟨(some 5), mv (t 36), none⟩])))))) (seq (reg [⟨(some 46), mv (t 3), none⟩, ⟨(some 47), bin .add (t 46) (c (.str ⟨#[10]⟩)), none⟩, ⟨(some 2), mv (t 47), none⟩]) (ret)))))))
def r_spec_PatternText : List ARes := [.tmp 2]
theorem k_spec_PatternText : acLin Go.Proofs.Tryz.prog 31 1 (inQ [68, 71, 78] [30, 77]) [] = some (c_spec_PatternText, r_spec_PatternText) := by kernel_rfl
end Go.Proofs.YtlglgcmpeabdnaaGreatDoorAi
end

section
/- Contracts: texts of patterns, of the program. -/
namespace Go.Proofs.YtlglgcmpeabdnaaGreatDoorAi
open Go Go.RowKit
set_option linter.unusedVariables false
set_option linter.unusedSimpArgs false
set_option maxRecDepth 20000

@[simp] theorem bytesA_lt (n : Nat) (s : ByteArray) : ltL n (bytesA s) = true := by
  unfold bytesA
  induction s.data.toList with
  | nil => rfl
  | cons x r ih => simp [ltL, AV.lt, ih]
@[simp] theorem bytesA_ren (f : Nat → Nat) (s : ByteArray) : renL f (bytesA s) = bytesA s := by
  unfold bytesA
  induction s.data.toList with
  | nil => rfl
  | cons x r ih => simp [renL, AV.ren, ih]
@[simp] theorem bytesA_loose (s : ByteArray) : looseL (bytesA s) = bytesA s := by
  unfold bytesA
  induction s.data.toList with
  | nil => rfl
  | cons x r ih => simp [looseL, AV.loose, ih]
/-! ### a builder behind one object -/
theorem bT_eq : (85 : Nat) = bT := rfl
theorem ws_fresh (o : Option (List AV)) (s : ByteArray) : spWS [.ep (.ptr 1 0) 85 0, .str s] ⟨[o, some [.nilp, .sl [] true]]⟩ = if s.size ≠ 0 ∧ s.size ≤ 140737488355328 then some (wsR s.size, ⟨[o, some [.ptr 1 0, .ref 2 1 0 s.size .u8], some (bytesA s)]⟩) else none := by
  show (if (85 : Nat) = bT then _ else none) = _
  rw [if_pos bT_eq]; rfl
theorem ws_used (o : Option (List AV)) (n : Nat) (cs : List AV) (s : ByteArray) : spWS [.ep (.ptr 1 0) 85 0, .str s] ⟨[o, some [.ptr 1 0, .ref 2 1 0 n .u8], some cs]⟩ = if n ≠ 0 ∧ n + s.size ≤ 140737488355328 ∧ cs.length = n then some (wsR s.size, ⟨[o, some [.ptr 1 0, .ref 3 1 0 (n + s.size) .u8], none, some (cs ++ bytesA s)]⟩) else none := by
  have e1 : spWS [.ep (.ptr 1 0) 85 0, .str s] ⟨[o, some [.ptr 1 0, .ref 2 1 0 n .u8], some cs]⟩ = if (1 : Nat) = 1 ∧ (2 : Nat) ≠ 1 ∧ n ≠ 0 ∧ n + s.size ≤ 140737488355328 then (if cs.length = n then some (wsR s.size, ⟨[o, some [.ptr 1 0, .ref 3 1 0 (n + s.size) .u8], none, some (cs ++ bytesA s)]⟩) else none) else none := by
    show (if (85 : Nat) = bT then _ else none) = _
    rw [if_pos bT_eq]; rfl
  rw [e1]
  by_cases h1 : n ≠ 0 ∧ n + s.size ≤ 140737488355328
  · rw [if_pos ⟨rfl, by decide, h1.1, h1.2⟩]
    by_cases h2 : cs.length = n
    · rw [if_pos h2, if_pos ⟨h1.1, h1.2, h2⟩]
    · rw [if_neg h2, if_neg fun h => h2 h.2.2]
  · rw [if_neg fun h => h1 ⟨h.2.2.1, h.2.2.2⟩, if_neg fun h => h1 ⟨h.1, h.2.1⟩]
theorem bs_used (o : Option (List AV)) (n : Nat) (s : ByteArray) : spBS [.ep (.ptr 1 0) 85 0] ⟨[o, some [.ptr 1 0, .ref 3 1 0 n .u8], none, some (bytesA s)]⟩ = if n ≠ 0 ∧ s.size = n then some (.str s, ⟨[o, some [.ptr 1 0, .ref 3 1 0 n .u8], none, none]⟩) else none := by
  have e1 : spBS [.ep (.ptr 1 0) 85 0] ⟨[o, some [.ptr 1 0, .ref 3 1 0 n .u8], none, some (bytesA s)]⟩ = if (1 : Nat) = 1 ∧ (3 : Nat) ≠ 1 ∧ n ≠ 0 then (if (bytesA s).length = n then (unB (bytesA s)).map fun l => (.str ⟨l.toArray⟩, ⟨[o, some [.ptr 1 0, .ref 3 1 0 n .u8], none, none]⟩) else none) else none := by
    show (if (85 : Nat) = bT then _ else none) = _
    rw [if_pos bT_eq]; rfl
  rw [e1, unB_bytes, bytesA_len]
  by_cases h1 : n ≠ 0
  · rw [if_pos ⟨rfl, by decide, h1⟩]
    by_cases h2 : s.size = n
    · rw [if_pos h2, if_pos ⟨h1, h2⟩]
      simp
    · rw [if_neg h2, if_neg fun h => h2 h.2]
  · rw [if_neg fun h => h1 h.2.2, if_neg fun h => h1 h.1]
/-! ### texts -/
def patB : ByteArray := ⟨#[112, 97, 116, 116, 101, 114, 110, 32]⟩
def loopsB : ByteArray := ⟨#[108, 111, 111, 112, 115]⟩
def weiB : ByteArray := ⟨#[10, 119, 101, 105, 103, 104, 116, 115, 32]⟩
def lpW (l : Int) (w : ByteArray) : Nat → ByteArray
  | 0 => w
  | i + 1 => if loopB l i = true then lpW l w i ++ (sepB ++ decB i) else lpW l w i
theorem lpW_size (l : Int) (w : ByteArray) : ∀ i : Nat, i ≤ 5 → w.size ≤ (lpW l w i).size ∧ (lpW l w i).size ≤ w.size + i * 22
  | 0, _ => ⟨Nat.le_refl _, by simp [lpW]⟩
  | i + 1, h => by
    have ih := lpW_size l w i (by omega)
    have hd := decB_size i (by omega) (by omega)
    have hs : sepB.size = 1 := rfl
    rw [lpW]
    split
    · simp only [ByteArray.size_append]; omega
    · omega
theorem grT_sz {e : Int} {n : Nat} (h : n ≤ 5) : (grT e n).size ≤ 1200 := by
  have := edT_take (e := e) h (pairsE e n).length
  rw [List.take_length] at this
  exact this
def patW0 (n : Nat) (e : Int) : ByteArray := patB ++ grT e n ++ lineB ++ loopsB
def patT (n : Nat) (e l : Int) (ps : List Fr) : ByteArray := lpW l (patW0 n e) n ++ (weiB ++ fracsT ps ++ lineB)
theorem patOk_in {n e l : Int} {ps : List Fr} (h : patOk n e l ps = true) : (1 ≤ n ∧ n ≤ 4) ∧ (ps.length : Int) = n ∧ allOk ps = true ∧ graphOk n e = true := by
  unfold patOk at h
  simp only [Bool.and_eq_true, decide_eq_true_eq] at h
  obtain ⟨⟨⟨⟨⟨hg, hlo⟩, hn⟩, hall⟩, _⟩, _⟩ := h
  exact ⟨(of_decide_eq_true hlo).1, hn, hall, hg⟩
theorem patW0_size {n : Nat} {e : Int} (h : n ≤ 5) : 13 ≤ (patW0 n e).size ∧ (patW0 n e).size ≤ 1300 := by
  have h1 := grT_sz (e := e) h
  have h2 : patB.size = 8 := rfl
  have h3 : lineB.size = 1 := rfl
  have h4 : loopsB.size = 5 := rfl
  unfold patW0
  simp only [ByteArray.size_append]
  omega
noncomputable def sp_patTx : List (Option (List AV)) → List AV → Option (AV × List (Option (List AV))) := pv (pf (ι := (Nat) × (Int) × (Int) × (List Fr)) (α := AV × List (Option (List AV))) (fun ⟨n, e, l, ps⟩ => patOk n e l ps = true ∧ (0 ≤ e ∧ e ≤ 4294967295) ∧ (0 ≤ l ∧ l ≤ 4294967295)) (fun i => .agg (((fun ⟨n, e, l, ps⟩ => [some [.int .i64 n, .int .u32 e, .int .u32 l, .sl (frsA ps) false]] : (Nat) × (Int) × (Int) × (List Fr) → List (Option (List AV))) i).map enO) :: (fun ⟨n, e, l, ps⟩ => [.ptr 0 0] : (Nat) × (Int) × (Int) × (List Fr) → List AV) i) (fun ⟨n, e, l, ps⟩ => (.str (patT n e l ps), [some [.int .i64 n, .int .u32 e, .int .u32 l, .sl (frsA ps) false]])))
set_option maxHeartbeats 1000000 in
theorem v_impl_Pattern_text : QV PP 39 sp_patTx := by
  refine QV_pf fun i h => ?_
  obtain ⟨n, e, l, ps⟩ := i
  replace h : patOk n e l ps = true ∧ (0 ≤ e ∧ e ≤ 4294967295) ∧ (0 ≤ l ∧ l ≤ 4294967295) := h
  refine H_code (Quiet.q1 q_impl_Graph_text (Quiet.q1 q_impl_decimal (Quiet.q1 q_impl_fractionsText (Quiet.e1 e_strings_Builder_WriteString (Quiet.e1 v_impl_Pattern_loop.toE (Quiet.e1 e_strings_Builder_String Quiet.nil)))))) hmix k_impl_Pattern_text rfl (fun b => b) (by simp [AHeap.n]) (fun _ _ => rfl) (by rfl) (by first | rfl | simp) ?_
  show wpc _ PP _ c_impl_Pattern_text (initSt [.ptr 0 0] ⟨[some [.int .i64 n, .int .u32 e, .int .u32 l, .sl (frsA ps) false]]⟩) (endH (fun b => b) r_impl_Pattern_text (.str (patT n e l ps)) [some [.int .i64 n, .int .u32 e, .int .u32 l, .sl (frsA ps) false]])
  obtain ⟨hok, he, hl⟩ := h
  obtain ⟨hn, hlen, hall, hg⟩ := patOk_in hok
  have hn5 : n ≤ 5 := by omega
  have ht := sp_graphTx_eq n e ⟨hn5, he⟩
  have hf := sp_fracsText_eq ps ⟨hall, by omega⟩
  have sg := grT_sz (e := e) hn5
  have sf := fracsT_size hall
  have z1 : 8 + (grT e n).size ≤ 9223372036854775807 := by omega
  have z2 : 8 + (grT e n).size + 1 ≤ 9223372036854775807 := by omega
  have z3 : 8 + (grT e n).size + 1 + 5 ≤ 9223372036854775807 := by omega
  have z4 : 8 + (grT e n).size + 1 + 5 ≤ 140737488355328 := by omega
  unfold patT
  simp -dsimp -implicitDefEqProofs [c_impl_Pattern_text, r_impl_Pattern_text, ht, z1, z2, z3, z4, ws_fresh, wsR]
  refine wpLoop_st (fun (i : Nat) => ⟨tl [(0, .ptr 0 0), (3, .ep (.ptr 1 0) 85 0), (19, .int .i64 n), (20, .int .i64 i)], ⟨[some [.int .i64 n, .int .u32 e, .int .u32 l, .sl (frsA ps) false], some [.ptr 1 0, .ref 2 1 0 (lpW l (patW0 n e) i).size .u8], some (bytesA (lpW l (patW0 n e) i))]⟩⟩) (fun i => i ≤ n) (fun i => n - i) 0 (Nat.zero_le _) (Sub.keep (by simp) (by simp [hsub, lpW, patW0, patB, lineB, loopsB]) (by simp)) ?_
  intro i hi
  have sw := patW0_size (e := e) hn5
  have sz := lpW_size l (patW0 n e) i (by omega)
  simp -dsimp -implicitDefEqProofs
  refine brW_of (fun h => ?_) (fun h => ?_) <;> simp only [decide_eq_true_eq, decide_eq_false_iff_not] at h
  · have hx : i < n := by omega
    have hwi := wrapNat (i := i) (by omega)
    have hlp := sp_loopP_eq n e l ps i ⟨hl, by omega, by omega⟩
    have hes : lpW l (patW0 n e) (i + 1) = if loopB l i = true then lpW l (patW0 n e) i ++ (sepB ++ decB i) else lpW l (patW0 n e) i := rfl
    generalize lpW l (patW0 n e) i = W at *
    cases hb : loopB l i with
    | false =>
      rw [hb] at hlp hes
      have hes : lpW l (patW0 n e) (i + 1) = W := hes
      simp -dsimp -implicitDefEqProofs [hx, hlp, hwi]
      exact .mk (i + 1) (by omega) (by omega) (Sub.keep (by simp) (by simp [hsub, hes]) (by simp [hwi]))
    | true =>
      rw [hb] at hlp hes
      have hes : lpW l (patW0 n e) (i + 1) = W ++ (sepB ++ decB i) := hes
      have hd := sp_decimal_eq i (by omega)
      have sd := decB_size i (by omega) (by omega)
      have y1 : 1 + (decB i).size ≤ 9223372036854775807 := by omega
      have y2 : W.size + (1 + (decB i).size) ≤ 140737488355328 := by omega
      have y3 : W.size ≠ 0 := by omega
      simp -dsimp -implicitDefEqProofs [hx, hlp, hwi, hd, y1, y2, y3, ws_used, wsR, ← bytesA_app]
      exact .mk (i + 1) (by omega) (by omega) (Sub.mk' (fun b => if b = 2 then 3 else b) (by simp) (by intro b hb; simp at hb; subst hb; rfl) (by rfl) (by simp [hsub, hes, sepB]) (by simp [hwi]))
  · obtain rfl : i = n := by omega
    have y1 : 9 + (fracsT ps).size ≤ 9223372036854775807 := by omega
    have y2 : 9 + (fracsT ps).size + 1 ≤ 9223372036854775807 := by omega
    generalize lpW l (patW0 i e) i = W at *
    have y3 : W.size + (9 + (fracsT ps).size + 1) ≤ 140737488355328 := by omega
    have y4 : W.size ≠ 0 := by omega
    simp -dsimp -implicitDefEqProofs [hf, y1, y2, y3, y4, ws_used, wsR, ← bytesA_app, bs_used, weiB, lineB, hsub]
end Go.Proofs.YtlglgcmpeabdnaaGreatDoorAi
end

section
/- MADE BY PROGRAM (wip/tools/gen.py): the abstract code of functions. -/
namespace Go.Proofs.YtlglgcmpeabdnaaGreatDoorAi
open Go AC AOp Opd
set_option linter.unusedVariables false
set_option maxRecDepth 100000
namespace Rw
def c_impl_Pattern_text : AC := seq (reg [⟨(some 2), mv (c (.str ⟨#[]⟩)), none⟩]) (seq (reg [⟨(some 5), bld [.nilp, .sl [] true] [], none⟩, ⟨(some 3), allocb 85, none⟩, ⟨none, st (t 3) 2 (t 5), none⟩]) (seq (reg [⟨(some 6), mv (t 0), none⟩, ⟨(some 7), nilc (t 6), none⟩, ⟨(some 8), fad (t 7) 0, none⟩, ⟨(some 9), ld (t 8) 2 true, none⟩, ⟨(some 10), callq (c (.fn 84 [])) [t 9], none⟩, ⟨(some 11), bin .add (c (.str ⟨#[112, 97, 116, 116, 101, 114, 110, 32]⟩)) (t 10), none⟩, ⟨(some 12), bin .add (t 11) (c (.str ⟨#[10]⟩)), none⟩, ⟨(some 13), bin .add (t 12) (c (.str ⟨#[108, 111, 111, 112, 115]⟩)), none⟩, ⟨(some 14), calle (c (.fn 49 [])) [t 3, t 13] [], none⟩]) (seq (seq (reg [⟨(some 15), mv (t 0), none⟩, ⟨(some 16), nilc (t 15), none⟩, ⟨(some 17), fad (t 16) 0, none⟩, ⟨(some 18), fad (t 17) 0, none⟩, ⟨(some 19), ld (t 18) 1 false, none⟩, ⟨(some 20), mv (c (.int .i64 0)), none⟩]) (block 0 (loop (seq (reg [⟨(some 21), bin .lss (t 20) (t 19), none⟩]) (seq (cond (t 21) (skip) (exit 0)) (seq (block 1 (seq (reg [⟨(some 22), mv (t 20), none⟩, ⟨(some 4), mv (t 22), none⟩]) (seq (reg [⟨(some 23), mv (t 0), none⟩, ⟨(some 24), mv (t 4), none⟩, ⟨(some 25), calle (c (.fn 93 [])) [t 23, t 24] [], none⟩]) (cond (t 25) (reg [⟨(some 26), mv (t 4), none⟩, ⟨(some 27), callq (c (.fn 50 [])) [t 26], none⟩, ⟨(some 28), bin .add (c (.str ⟨#[32]⟩)) (t 27), none⟩, ⟨(some 29), calle (c (.fn 49 [])) [t 3, t 28] [], none⟩]) (skip))))) (reg [⟨(some 30), bin .add (t 20) (c (.int .i64 1)), none⟩, ⟨(some 20), mv (t 30), none⟩]))))))) (seq (reg [⟨(some 31), mv (t 0), none⟩, ⟨(some 32), nilc (t 31), none⟩, ⟨(some 33), fad (t 32) 3, none⟩, ⟨(some 34), ld (t 33) 1 false, none⟩, ⟨(some 35), calle (c (.fn 94 [])) [t 34] [], none⟩, ⟨(some 36), bin .add (c (.str ⟨#[10, 119, 101, 105, 103, 104, 116, 115, 32]⟩)) (t 35), none⟩, ⟨(some 37), bin .add (t 36) (c (.str ⟨#[10]⟩)), none⟩, ⟨(some 38), calle (c (.fn 49 [])) [t 3, t 37] [], none⟩]) (seq (reg [⟨(some 39), calle (c (.fn 53 [])) [t 3] [], none⟩, ⟨(some 2), mv (t 39), none⟩]) (ret))))))
def r_impl_Pattern_text : List ARes := [.tmp 2]
theorem k_impl_Pattern_text : acLin Go.Proofs.Tryz.prog 39 1 (inQ [50, 84] [49, 53, 93, 94]) [] = some (c_impl_Pattern_text, r_impl_Pattern_text) := by kernel_rfl
end Rw
end Go.Proofs.YtlglgcmpeabdnaaGreatDoorAi
end

section
/- Contracts: texts of patterns whose weights are owned. -/
namespace Go.Proofs.YtlglgcmpeabdnaaGreatDoorAi
open Go Go.RowKit
set_option linter.unusedVariables false
set_option linter.unusedSimpArgs false
set_option maxRecDepth 20000

theorem ws_fresh2 (o o' : Option (List AV)) (s : ByteArray) : spWS [.ep (.ptr 2 0) 85 0, .str s] ⟨[o, o', some [.nilp, .sl [] true]]⟩ = if s.size ≠ 0 ∧ s.size ≤ 140737488355328 then some (wsR s.size, ⟨[o, o', some [.ptr 2 0, .ref 3 1 0 s.size .u8], some (bytesA s)]⟩) else none := by
  show (if (85 : Nat) = bT then _ else none) = _
  rw [if_pos bT_eq]; rfl
theorem ws_used2 (o o' : Option (List AV)) (n : Nat) (cs : List AV) (s : ByteArray) : spWS [.ep (.ptr 2 0) 85 0, .str s] ⟨[o, o', some [.ptr 2 0, .ref 3 1 0 n .u8], some cs]⟩ = if n ≠ 0 ∧ n + s.size ≤ 140737488355328 ∧ cs.length = n then some (wsR s.size, ⟨[o, o', some [.ptr 2 0, .ref 4 1 0 (n + s.size) .u8], none, some (cs ++ bytesA s)]⟩) else none := by
  have e1 : spWS [.ep (.ptr 2 0) 85 0, .str s] ⟨[o, o', some [.ptr 2 0, .ref 3 1 0 n .u8], some cs]⟩ = if (2 : Nat) = 2 ∧ (3 : Nat) ≠ 2 ∧ n ≠ 0 ∧ n + s.size ≤ 140737488355328 then (if cs.length = n then some (wsR s.size, ⟨[o, o', some [.ptr 2 0, .ref 4 1 0 (n + s.size) .u8], none, some (cs ++ bytesA s)]⟩) else none) else none := by
    show (if (85 : Nat) = bT then _ else none) = _
    rw [if_pos bT_eq]; rfl
  rw [e1]
  by_cases h1 : n ≠ 0 ∧ n + s.size ≤ 140737488355328
  · rw [if_pos ⟨rfl, by decide, h1.1, h1.2⟩]
    by_cases h2 : cs.length = n
    · rw [if_pos h2, if_pos ⟨h1.1, h1.2, h2⟩]
    · rw [if_neg h2, if_neg fun h => h2 h.2.2]
  · rw [if_neg fun h => h1 ⟨h.2.2.1, h.2.2.2⟩, if_neg fun h => h1 ⟨h.1, h.2.1⟩]
theorem bs_used2 (o o' : Option (List AV)) (n : Nat) (s : ByteArray) : spBS [.ep (.ptr 2 0) 85 0] ⟨[o, o', some [.ptr 2 0, .ref 4 1 0 n .u8], none, some (bytesA s)]⟩ = if n ≠ 0 ∧ s.size = n then some (.str s, ⟨[o, o', some [.ptr 2 0, .ref 4 1 0 n .u8], none, none]⟩) else none := by
  have e1 : spBS [.ep (.ptr 2 0) 85 0] ⟨[o, o', some [.ptr 2 0, .ref 4 1 0 n .u8], none, some (bytesA s)]⟩ = if (2 : Nat) = 2 ∧ (4 : Nat) ≠ 2 ∧ n ≠ 0 then (if (bytesA s).length = n then (unB (bytesA s)).map fun l => (.str ⟨l.toArray⟩, ⟨[o, o', some [.ptr 2 0, .ref 4 1 0 n .u8], none, none]⟩) else none) else none := by
    show (if (85 : Nat) = bT then _ else none) = _
    rw [if_pos bT_eq]; rfl
  rw [e1, unB_bytes, bytesA_len]
  by_cases h1 : n ≠ 0
  · rw [if_pos ⟨rfl, by decide, h1⟩]
    by_cases h2 : s.size = n
    · rw [if_pos h2, if_pos ⟨h1, h2⟩]
      simp
    · rw [if_neg h2, if_neg fun h => h2 h.2]
  · rw [if_neg fun h => h1 h.2.2, if_neg fun h => h1 h.1]
@[simp] theorem flatF_inj (l k : List Fr) : flatA (mapA frA l) = flatA (mapA frA k) ↔ l = k := by
  constructor
  · intro h
    have hl : l.length = k.length := by
      have := congrArg List.length h
      simp at this
      omega
    have h1 := gath_fr l l.length rfl
    have h2 := gath_fr k l.length hl
    rw [h, h2] at h1
    exact (frsA_inj.1 h1).symm
  · rintro rfl; rfl
namespace Rw
noncomputable def sp_loopPR : List (Option (List AV)) → List AV → Option (AV × List (Option (List AV))) := pv (pf (ι := (Int) × (Int) × (Int) × (List Fr) × (Int)) (α := AV × List (Option (List AV))) (fun ⟨n, e, l, ps, i⟩ => (0 ≤ l ∧ l ≤ 4294967295) ∧ (0 ≤ i ∧ i < 5)) (fun i => .agg (((fun ⟨n, e, l, ps, i⟩ => [some [.int .i64 n, .int .u32 e, .int .u32 l, .ref 1 2 0 ps.length .full], some (flatA (frsA ps))] : (Int) × (Int) × (Int) × (List Fr) × (Int) → List (Option (List AV))) i).map enO) :: (fun ⟨n, e, l, ps, i⟩ => [.ptr 0 0, .int .i64 i] : (Int) × (Int) × (Int) × (List Fr) × (Int) → List AV) i) (fun ⟨n, e, l, ps, i⟩ => (.bool (loopB l i), [some [.int .i64 n, .int .u32 e, .int .u32 l, .ref 1 2 0 ps.length .full], some (flatA (frsA ps))])))
theorem sp_loopPR_eq (n e l : Int) (ps : List Fr) (i : Int) (h : (0 ≤ l ∧ l ≤ 4294967295) ∧ (0 ≤ i ∧ i < 5)) : sp_loopPR [some [.int .i64 n, .int .u32 e, .int .u32 l, .ref 1 2 0 ps.length .full], some (flatA (frsA ps))] [.ptr 0 0, .int .i64 i] = some (.bool (loopB l i), [some [.int .i64 n, .int .u32 e, .int .u32 l, .ref 1 2 0 ps.length .full], some (flatA (frsA ps))]) := by
  unfold sp_loopPR pv
  exact pf_eq (ι := (Int) × (Int) × (Int) × (List Fr) × (Int)) (α := AV × List (Option (List AV))) (n, e, l, ps, i) h (by rintro ⟨n', e', l', ps', i'⟩ _ e; simp_all [enO, Int.natCast_inj])
theorem v_impl_Pattern_loop : QV PP 93 sp_loopPR := by
  refine QV_pf fun i h => ?_
  obtain ⟨n, e, l, ps, i⟩ := i
  replace h : (0 ≤ l ∧ l ≤ 4294967295) ∧ (0 ≤ i ∧ i < 5) := h
  refine H_code Quiet.nil hmix k_impl_Pattern_loop rfl (fun b => b) (by simp [AHeap.n]) (fun _ _ => rfl) (by rfl) (by first | rfl | simp) ?_
  show wpc _ PP _ c_impl_Pattern_loop (initSt [.ptr 0 0, .int .i64 i] ⟨[some [.int .i64 n, .int .u32 e, .int .u32 l, .ref 1 2 0 ps.length .full], some (flatA (frsA ps))]⟩) (endH (fun b => b) r_impl_Pattern_loop (.bool (loopB l i)) [some [.int .i64 n, .int .u32 e, .int .u32 l, .ref 1 2 0 ps.length .full], some (flatA (frsA ps))])
  obtain ⟨⟨l0, l1⟩, i0, i1⟩ := h
  obtain ⟨m, rfl⟩ := Int.eq_ofNat_of_zero_le l0
  have hn : ¬ i < 0 := by omega
  have hb := shrBit (l := m) (i := i.toNat) (by omega) (by omega)
  simp -dsimp -implicitDefEqProofs [c_impl_Pattern_loop, r_impl_Pattern_loop, hn, hb, loopB, hsub]
noncomputable def sp_patTxR : List (Option (List AV)) → List AV → Option (AV × List (Option (List AV))) := pv (pf (ι := (Nat) × (Int) × (Int) × (List Fr)) (α := AV × List (Option (List AV))) (fun ⟨n, e, l, ps⟩ => patOk n e l ps = true ∧ (0 ≤ e ∧ e ≤ 4294967295) ∧ (0 ≤ l ∧ l ≤ 4294967295)) (fun i => .agg (((fun ⟨n, e, l, ps⟩ => [some [.int .i64 n, .int .u32 e, .int .u32 l, .ref 1 2 0 ps.length .full], some (flatA (frsA ps))] : (Nat) × (Int) × (Int) × (List Fr) → List (Option (List AV))) i).map enO) :: (fun ⟨n, e, l, ps⟩ => [.ptr 0 0] : (Nat) × (Int) × (Int) × (List Fr) → List AV) i) (fun ⟨n, e, l, ps⟩ => (.str (patT n e l ps), [some [.int .i64 n, .int .u32 e, .int .u32 l, .ref 1 2 0 ps.length .full], some (flatA (frsA ps))])))
theorem sp_patTxR_eq (n : Nat) (e l : Int) (ps : List Fr) (h : patOk n e l ps = true ∧ (0 ≤ e ∧ e ≤ 4294967295) ∧ (0 ≤ l ∧ l ≤ 4294967295)) : sp_patTxR [some [.int .i64 n, .int .u32 e, .int .u32 l, .ref 1 2 0 ps.length .full], some (flatA (frsA ps))] [.ptr 0 0] = some (.str (patT n e l ps), [some [.int .i64 n, .int .u32 e, .int .u32 l, .ref 1 2 0 ps.length .full], some (flatA (frsA ps))]) := by
  unfold sp_patTxR pv
  exact pf_eq (ι := (Nat) × (Int) × (Int) × (List Fr)) (α := AV × List (Option (List AV))) (n, e, l, ps) h (by rintro ⟨n', e', l', ps'⟩ _ e; simp_all [enO, Int.natCast_inj])
set_option maxHeartbeats 1000000 in
theorem v_impl_Pattern_text : QV PP 39 sp_patTxR := by
  refine QV_pf fun i h => ?_
  obtain ⟨n, e, l, ps⟩ := i
  replace h : patOk n e l ps = true ∧ (0 ≤ e ∧ e ≤ 4294967295) ∧ (0 ≤ l ∧ l ≤ 4294967295) := h
  refine H_code (Quiet.q1 q_impl_Graph_text (Quiet.q1 q_impl_decimal (Quiet.e1 e_strings_Builder_WriteString (Quiet.e1 v_impl_Pattern_loop.toE (Quiet.e1 q_impl_fractionsText.toR (Quiet.e1 e_strings_Builder_String Quiet.nil)))))) hmix k_impl_Pattern_text rfl (fun b => b) (by simp [AHeap.n]) (fun _ _ => rfl) (by rfl) (by first | rfl | simp) ?_
  show wpc _ PP _ c_impl_Pattern_text (initSt [.ptr 0 0] ⟨[some [.int .i64 n, .int .u32 e, .int .u32 l, .ref 1 2 0 ps.length .full], some (flatA (frsA ps))]⟩) (endH (fun b => b) r_impl_Pattern_text (.str (patT n e l ps)) [some [.int .i64 n, .int .u32 e, .int .u32 l, .ref 1 2 0 ps.length .full], some (flatA (frsA ps))])
  obtain ⟨hok, he, hl⟩ := h
  obtain ⟨hn, hlen, hall, hg⟩ := patOk_in hok
  have hn5 : n ≤ 5 := by omega
  have ht := sp_graphTx_eq n e ⟨hn5, he⟩
  have hf := sp_fracsText_eq ps ⟨hall, by omega⟩
  have sg := grT_sz (e := e) hn5
  have sf := fracsT_size hall
  have z1 : 8 + (grT e n).size ≤ 9223372036854775807 := by omega
  have z2 : 8 + (grT e n).size + 1 ≤ 9223372036854775807 := by omega
  have z3 : 8 + (grT e n).size + 1 + 5 ≤ 9223372036854775807 := by omega
  have z4 : 8 + (grT e n).size + 1 + 5 ≤ 140737488355328 := by omega
  unfold patT
  simp -dsimp -implicitDefEqProofs [c_impl_Pattern_text, r_impl_Pattern_text, ht, z1, z2, z3, z4, ws_fresh2, wsR]
  refine wpLoop_st (fun (i : Nat) => ⟨tl [(0, .ptr 0 0), (3, .ep (.ptr 2 0) 85 0), (19, .int .i64 n), (20, .int .i64 i)], ⟨[some [.int .i64 n, .int .u32 e, .int .u32 l, .ref 1 2 0 ps.length .full], some (flatA (frsA ps)), some [.ptr 2 0, .ref 3 1 0 (lpW l (patW0 n e) i).size .u8], some (bytesA (lpW l (patW0 n e) i))]⟩⟩) (fun i => i ≤ n) (fun i => n - i) 0 (Nat.zero_le _) (Sub.keep (by simp) (by simp [hsub, lpW, patW0, patB, lineB, loopsB]) (by simp)) ?_
  intro i hi
  have sw := patW0_size (e := e) hn5
  have sz := lpW_size l (patW0 n e) i (by omega)
  simp -dsimp -implicitDefEqProofs
  refine brW_of (fun h => ?_) (fun h => ?_) <;> simp only [decide_eq_true_eq, decide_eq_false_iff_not] at h
  · have hx : i < n := by omega
    have hwi := wrapNat (i := i) (by omega)
    have hlp := sp_loopPR_eq n e l ps i ⟨hl, by omega, by omega⟩
    have hes : lpW l (patW0 n e) (i + 1) = if loopB l i = true then lpW l (patW0 n e) i ++ (sepB ++ decB i) else lpW l (patW0 n e) i := rfl
    generalize lpW l (patW0 n e) i = W at *
    cases hb : loopB l i with
    | false =>
      rw [hb] at hlp hes
      have hes : lpW l (patW0 n e) (i + 1) = W := hes
      simp -dsimp -implicitDefEqProofs [hx, hlp, hwi]
      exact .mk (i + 1) (by omega) (by omega) (Sub.keep (by simp) (by simp [hsub, hes]) (by simp [hwi]))
    | true =>
      rw [hb] at hlp hes
      have hes : lpW l (patW0 n e) (i + 1) = W ++ (sepB ++ decB i) := hes
      have hd := sp_decimal_eq i (by omega)
      have sd := decB_size i (by omega) (by omega)
      have y1 : 1 + (decB i).size ≤ 9223372036854775807 := by omega
      have y2 : W.size + (1 + (decB i).size) ≤ 140737488355328 := by omega
      have y3 : W.size ≠ 0 := by omega
      simp -dsimp -implicitDefEqProofs [hx, hlp, hwi, hd, y1, y2, y3, ws_used2, wsR, ← bytesA_app]
      exact .mk (i + 1) (by omega) (by omega) (Sub.mk' (fun b => if b = 3 then 4 else b) (by simp) (by intro b hb; (try simp at hb); rw [if_neg (by omega)]) (by rfl) (by simp [hsub, hes, sepB]) (by simp [hwi]))
  · obtain rfl : i = n := by omega
    have y1 : 9 + (fracsT ps).size ≤ 9223372036854775807 := by omega
    have y2 : 9 + (fracsT ps).size + 1 ≤ 9223372036854775807 := by omega
    generalize lpW l (patW0 i e) i = W at *
    have y3 : W.size + (9 + (fracsT ps).size + 1) ≤ 140737488355328 := by omega
    have y4 : W.size ≠ 0 := by omega
    simp -dsimp -implicitDefEqProofs [hf, y1, y2, y3, y4, ws_used2, wsR, ← bytesA_app, bs_used2, weiB, lineB, hsub]
end Rw
end Go.Proofs.YtlglgcmpeabdnaaGreatDoorAi
end

section
/- Contracts: ReadPattern of the program. -/
namespace Go.Proofs.YtlglgcmpeabdnaaGreatDoorAi
open Go Go.RowKit
set_option linter.unusedVariables false
set_option linter.unusedSimpArgs false
set_option maxRecDepth 20000

def weisB : ByteArray := ⟨#[119, 101, 105, 103, 104, 116, 115, 32]⟩
/-! ### what is read -/
def gL : List ByteArray → Nat → Option Nat
  | [], l => some l
  | w :: r, l => if numB w = true ∧ 0 ≤ numV w ∧ numV w ≤ 3 then gL r (l ||| 2 ^ (numV w).toNat) else none
def ipW (s : ByteArray) : List ByteArray := piecesB s lineB
def ipF (s : ByteArray) (n e l : Nat) (L : List Fr) : Prop := patOk n e l L = true ∧ (patT n e l L == s) = true
open Classical in
noncomputable def ipO (s : ByteArray) : Option (Nat × Nat × Nat × List Fr) := if s.size ≤ 400 ∧ (ipW s).length = 4 then (rgO (cpA ((ipW s)[0]?.getD noB) patB)).bind fun g => (rfO (cpA ((ipW s)[2]?.getD noB) weisB)).bind fun L => (gL (piecesB ((ipW s)[1]?.getD noB) sepB).tail 0).bind fun l => if ipF s g.1 g.2 l L then some (g.1, g.2, l, L) else none else none
def rpA : Option (Nat × Nat × Nat × List Fr) → AV
  | some (n, e, l, L) => .tup [.agg [.int .i64 n, .int .u32 e, .int .u32 l, lvE 0 L], .int .i64 0]
  | none => .tup [.agg [.int .i64 0, .int .u32 0, .int .u32 0, .sl [] true], .int .i64 5]
def rpB : Option (Nat × Nat × Nat × List Fr) → List (Option (List AV))
  | some (_, _, _, L) => obE L
  | none => []
theorem rpB_inj (f : Nat → Nat) (o : Option (Nat × Nat × Nat × List Fr)) : injB f (rpB o).length = true := by
  cases o with
  | none => rfl
  | some x =>
    obtain ⟨n, e, l, L⟩ := x
    exact obE_inj f L
theorem rpA_lt0 (o : Option (Nat × Nat × Nat × List Fr)) : AV.lt (rpB o).length (rpA o) = true := by
  cases o with
  | none => rfl
  | some x =>
    obtain ⟨n, e, l, L⟩ := x
    show AV.lt (obE L).length (.tup [.agg [.int .i64 n, .int .u32 e, .int .u32 l, lvE 0 L], .int .i64 0]) = true
    have := lvE_lt0 L
    simp [AV.lt, ltL, this]
theorem gF_len : ∀ (W : List ByteArray) (L K : List Fr), gF W L = some K → K.length = L.length + W.length
  | [], L, K, h => by
    rw [gF] at h; injection h with h; subst h; simp
  | w :: r, L, K, h => by
    rw [gF] at h
    split at h
    · have := gF_len r _ K h
      simp only [List.length_append, List.length_cons, List.length_nil] at this ⊢
      omega
    · cases h
theorem rg_cases (o : Option (Nat × Nat)) (ho : ∀ n m, o = some (n, m) → n ≤ 5 ∧ m < 1024) : ∃ (n m : Nat) (c : Int), rgA o = .tup [.agg [.int .i64 n, .int .u32 m], .int .i64 c] ∧ n ≤ 5 ∧ m < 1024 ∧ ((c = 0 ∧ o = some (n, m)) ∨ (c = 5 ∧ o = none)) := by
  cases o with
  | none => exact ⟨0, 0, 5, rfl, by omega, by omega, .inr ⟨rfl, rfl⟩⟩
  | some g =>
    obtain ⟨n, m⟩ := g
    exact ⟨n, m, 0, rfl, (ho n m rfl).1, (ho n m rfl).2, .inl ⟨rfl, rfl⟩⟩
theorem shl4 : ∀ k : Nat, k < 4 → IntKind.u32.wrap (2 ^ min k IntKind.u32.bits) = 2 ^ k := by decide
theorem or_lt16 {l k : Nat} (hl : l < 16) (hk : k < 4) : l ||| 2 ^ k < 16 := by
  have h2 : 2 ^ k < 16 := by
    have : k = 0 ∨ k = 1 ∨ k = 2 ∨ k = 3 := by omega
    rcases this with rfl | rfl | rfl | rfl <;> decide
  exact Nat.or_lt_two_pow (n := 4) hl h2
theorem or_loops {l k : Nat} (hl : l < 16) (hk : k < 4) : IntKind.u32.wrap (BitVec.ofInt IntKind.u32.bits (l : Int) ||| BitVec.ofInt IntKind.u32.bits ((2 : Int) ^ k)).toNat = ((l ||| 2 ^ k : Nat) : Int) := by
  have h2 : 2 ^ k < 16 := by
    have : k = 0 ∨ k = 1 ∨ k = 2 ∨ k = 3 := by omega
    rcases this with rfl | rfl | rfl | rfl <;> decide
  have ho := or32 (a := l) (b := 2 ^ k) (by omega) (by omega)
  have hcast : ((2 ^ k : Nat) : Int) = 2 ^ k := by simp
  rw [hcast] at ho
  exact ho
noncomputable def sp_readPt : List AV → Option (AV × List (Option (List AV))) := pf (ι := (ByteArray)) (α := AV × List (Option (List AV))) (fun s => s.size ≤ 1048576) (fun s => [.str s]) (fun s => (rpA (ipO s), rpB (ipO s)))
theorem sp_readPt_eq (s : ByteArray) (h : s.size ≤ 1048576) : sp_readPt [.str s] = some ((rpA (ipO s), rpB (ipO s))) := by
  unfold sp_readPt
  exact pf_eq (ι := (ByteArray)) (α := AV × List (Option (List AV))) s h (by rintro s' _ e; simp_all [Int.natCast_inj])
set_option maxHeartbeats 8000000 in
theorem n_impl_ReadPattern : QN PP 8 sp_readPt := by
  refine QN_pf (fun s h => ?_) fun s h => ?_
  · first | rfl | simp
  replace h : s.size ≤ 1048576 := h
  show T PP 8 [.str s] .nil fun r' A' => r' = (((rpA (ipO s), rpB (ipO s)) : AV × List (Option (List AV)))).1 ∧ A' = ⟨(((rpA (ipO s), rpB (ipO s)) : AV × List (Option (List AV)))).2⟩
  have hsp : sp_pieces [.str s, .str ⟨#[10]⟩] = some (.ref 0 1 0 (ipW s).length .tight, [some (flatA (strsA (ipW s)))]) := sp_pieces_eq s lineB ⟨by omega, rfl⟩
  rw [flat_strs] at hsp
  have hsz : ∀ w ∈ ipW s, w.size ≤ s.size := fun w hw => splitB_size lineB _ _ w hw
  refine H_code (Quiet.q1 q_impl_ReadFraction (Quiet.q1 q_strings_TrimPrefix (Quiet.q1 q_impl_ReadGraph (Quiet.q1 q_impl_number (Quiet.q1 q_impl_in (Quiet.e1 n_strings_Split.toE (Quiet.e1 n_impl_readFractions.toE (Quiet.e1 Rw.v_impl_Pattern_text.toE (Quiet.e1 q_impl_ValidPattern.toR Quiet.nil))))))))) hmix k_impl_ReadPattern rfl (fun _ => 3) (by simp [AHeap.n, AHeap.nil]) (by intro b hb; simp [AHeap.n, AHeap.nil] at hb) (rpB_inj _ _) (rpA_lt0 _) ?_
  obtain ⟨R, hR⟩ : ∃ R, R = ipO s := ⟨_, rfl⟩
  rw [← hR]
  unfold ipO at hR
  generalize hW : ipW s = W at *
  have r3 : ∀ n, ltL n (strsA W) = true := fun n => by rw [← flat_strs]; simp
  have rr : ∀ f, renL f (strsA W) = strsA W := fun f => by rw [← flat_strs]; simp
  by_cases hs : s.size ≤ 400
  · have hsi : ¬ (400 : Int) < s.size := by omega
    by_cases h4 : W.length = 4
    · rw [if_pos ⟨hs, h4⟩] at hR
      obtain ⟨w0, w1, w2, w3, rfl⟩ : ∃ a b c d, W = [a, b, c, d] := by
        match W, h4 with
        | [a, b, c, d], _ => exact ⟨a, b, c, d, rfl⟩
      have hR : R = (rgO (cpA w0 patB)).bind fun g => (rfO (cpA w2 weisB)).bind fun L => (gL (piecesB w1 sepB).tail 0).bind fun l => (open Classical in if ipF s g.1 g.2 l L then some (g.1, g.2, l, L) else none) := hR
      have z0 := hsz w0 (by simp)
      have z1 := hsz w1 (by simp)
      have z2 := hsz w2 (by simp)
      have c0 := cpA_size w0 patB
      have c2 := cpA_size w2 weisB
      have ht0 : sp_trimP [.str w0, .str ⟨#[112, 97, 116, 116, 101, 114, 110, 32]⟩] = some (.str (cpA w0 patB)) := sp_trimP_eq w0 patB (by omega)
      have ht2 : sp_trimP [.str w2, .str ⟨#[119, 101, 105, 103, 104, 116, 115, 32]⟩] = some (.str (cpA w2 weisB)) := sp_trimP_eq w2 weisB (by omega)
      have hgr := sp_readGr_eq (cpA w0 patB) (by omega)
      have hrf := sp_readFrs_eq (cpA w2 weisB) (by omega)
      obtain ⟨gn, ge, gc, eg, hn5, he10, hgc⟩ := rg_cases (rgO (cpA w0 patB)) fun n m h => rgO_lt h
      rw [eg] at hgr
      have hs1 : sp_pieces [.str w1, .str ⟨#[32]⟩] = some (.ref 0 1 0 (piecesB w1 sepB).length .tight, [some (flatA (strsA (piecesB w1 sepB)))]) := sp_pieces_eq w1 sepB ⟨by omega, rfl⟩
      rw [flat_strs] at hs1
      have hs1sz : ∀ w ∈ piecesB w1 sepB, w.size ≤ 1048576 := fun w hw => by have := splitB_size sepB _ _ w hw; omega
      have hmost : (piecesB w1 sepB).length ≤ 402 := by
        rw [pieces_len _ _ (by decide)]
        have := count_le w1 sepB (by decide)
        omega
      obtain ⟨m, hm⟩ : ∃ m, (piecesB w1 sepB).length = m + 1 := ⟨_, pieces_len w1 sepB (by decide)⟩
      generalize piecesB w1 sepB = P at *
      have t3 : ∀ n, ltL n (strsA P) = true := fun n => by rw [← flat_strs]; simp
      have tr : ∀ f, renL f (strsA P) = strsA P := fun f => by rw [← flat_strs]; simp
      have hm1 : 1 ≤ m + 1 := by omega
      have hPd : P.tail = P.drop 1 := by rw [List.drop_one]
      rw [hPd] at hR
      have wm : IntKind.wrap .i64 (m : Int) = m := wrapI64 (by omega) (by omega)
      cases hf : rfO (cpA w2 weisB) with
      | none =>
        rw [hf] at hrf hR
        have hR2 : R = none := by
          rw [hR]
          rcases hgc with ⟨_, h⟩ | ⟨_, h⟩ <;> rw [h] <;> rfl
        subst hR2
        simp -dsimp -implicitDefEqProofs [c_impl_ReadPattern, r_impl_ReadPattern, hsp, rr, hsi, ht0, hgr, ht2, hrf, rfA, rfB, hs1, tr, hm]
        refine wpLoop_st (fun (x : Nat × Nat) => ⟨tl [(0, .str s), (2, .ptr 0 0), (6, .int .i64 gc), (8, .bool false), (9, .ptr 3 0), (48, .ref 4 1 1 m .tight), (49, .int .i64 m), (50, .int .i64 x.1)], ⟨[some [.int .i64 0, .int .u32 0, .int .u32 0, .sl [] true], some (strsA [w0, w1, w2, w3]), some [.int .i64 gn, .int .u32 ge], some [.int .i64 gn, .int .u32 ge, .int .u32 x.2, .sl [] true], some (strsA P)]⟩⟩) (fun x => x.1 ≤ m ∧ x.2 < 16) (fun x => m - x.1) (0, 0) ⟨Nat.zero_le _, by decide⟩ (Sub.keep (by simp) (by simp [hsub, r3, rr, t3, tr]) (by simp)) ?_
        rintro ⟨k, l⟩ ⟨hk, hl⟩
        simp only at hk hl
        simp -dsimp -implicitDefEqProofs
        refine brW_of (fun h => ?_) (fun h => ?_) <;> simp only [decide_eq_true_eq, decide_eq_false_iff_not] at h
        · have hx : k < m := by omega
          have hx1 : 1 + k < P.length := by omega
          have hwk := wrapNat (i := k) (by omega)
          have q1 : P[1 + k]? = some P[1 + k] := List.getElem?_eq_getElem hx1
          have hni := sp_numI_eq P[1 + k] (hs1sz _ (List.getElem_mem hx1))
          generalize hww : P[1 + k] = w at *
          cases hb : numB w with
          | false =>
            rw [hb] at hni
            simp -dsimp -implicitDefEqProofs [hx, hx1, q1, hww, hni, rpA, rpB, hsub]
          | true =>
            rw [hb] at hni
            by_cases hin : 0 ≤ numV w ∧ numV w ≤ 3
            · obtain ⟨hin0, hin3⟩ := hin
              obtain ⟨j, hj⟩ := Int.eq_ofNat_of_zero_le hin0
              rw [hj] at hni hin0 hin3
              have hj4 : j < 4 := by omega
              have hj3 : (j : Int) ≤ 3 := by omega
              have hjn : ¬ (j : Int) < 0 := by omega
              have hsh := shl4 j hj4
              have ho := or_loops hl hj4
              simp at ho
              simp -dsimp -implicitDefEqProofs [hx, hx1, q1, hww, hni, hj3, hjn, hsh, ho, hwk]
              exact .mk (k + 1, l ||| 2 ^ j) ⟨by simp only; omega, or_lt16 hl hj4⟩ (by simp only; omega) (Sub.keep (by simp) (by simp [hsub, r3, rr, t3, tr]) (by simp [hwk]))
            · have hbn : (decide (0 ≤ numV w) && decide (numV w ≤ 3)) = false := by
                rw [Bool.and_eq_false_iff]
                simp only [decide_eq_false_iff_not]
                omega
              by_cases hin0 : 0 ≤ numV w
              · have hin3 : ¬ numV w ≤ 3 := fun h => hin ⟨hin0, h⟩
                simp -dsimp -implicitDefEqProofs [hx, hx1, q1, hww, hni, hin0, hin3, rpA, rpB, hsub]
              · simp -dsimp -implicitDefEqProofs [hx, hx1, q1, hww, hni, hin0, rpA, rpB, hsub]
        · have hi : k = m := by omega
          subst hi
          rcases hgc with ⟨rfl, _⟩ | ⟨rfl, _⟩
          · simp -dsimp -implicitDefEqProofs [rpA, rpB, hsub]
          · simp -dsimp -implicitDefEqProofs [rpA, rpB, hsub]
      | some L =>
        rw [hf] at hrf hR
        have hLl : L.length ≤ 402 := by
          have h1 := gF_len _ _ _ hf
          have h2 := pieces_len (cpA w2 weisB) sepB (by decide)
          have h3 := count_le (cpA w2 weisB) sepB (by decide)
          simp only [List.length_nil] at h1
          omega
        have hLn : L ≠ [] := by
          intro h0
          have h1 := gF_len _ _ _ hf
          have h2 := pieces_len (cpA w2 weisB) sepB (by decide)
          rw [h0] at h1
          simp only [List.length_nil] at h1
          omega
        obtain ⟨F, hF⟩ : ∃ F : Nat → Option (Nat × Nat × Nat × List Fr), F = fun l => (open Classical in if ipF s gn ge l L then some (gn, ge, l, L) else none) := ⟨_, rfl⟩
        have hRF : R = if gc = 0 then (gL (P.drop 1) 0).bind F else none := by
          rw [hR, hF]
          rcases hgc with ⟨h1, h⟩ | ⟨h1, h⟩
          · rw [h, if_pos h1]; rfl
          · rw [h, if_neg (by rw [h1]; decide)]; rfl
        clear hR
        have o1 := obE_cons hLn
        have o2 : lvE 0 L = .ref 0 2 0 L.length .full := lvE_cons hLn
        rw [rfA, rfB, o1, o2] at hrf
        simp -dsimp -implicitDefEqProofs [c_impl_ReadPattern, r_impl_ReadPattern, hsp, rr, hsi, ht0, hgr, ht2, hrf, hs1, tr, hm]
        refine wpLoop_st (fun (x : Nat × Nat) => ⟨tl [(0, .str s), (2, .ptr 0 0), (6, .int .i64 gc), (8, .bool true), (9, .ptr 4 0), (48, .ref 5 1 1 m .tight), (49, .int .i64 m), (50, .int .i64 x.1)], ⟨[some [.int .i64 0, .int .u32 0, .int .u32 0, .sl [] true], some (strsA [w0, w1, w2, w3]), some [.int .i64 gn, .int .u32 ge], some (flatA (frsA L)), some [.int .i64 gn, .int .u32 ge, .int .u32 x.2, .ref 3 2 0 L.length .full], some (strsA P)]⟩⟩) (fun x => x.1 ≤ m ∧ x.2 < 16 ∧ R = if gc = 0 then (gL (P.drop (1 + x.1)) x.2).bind F else none) (fun x => m - x.1) (0, 0) ⟨Nat.zero_le _, by decide, hRF⟩ (Sub.keep (by simp) (by simp [hsub, r3, rr, t3, tr]) (by simp)) ?_
        rintro ⟨k, l⟩ ⟨hk, hl, hRk⟩
        simp only at hk hl hRk
        simp -dsimp -implicitDefEqProofs
        refine brW_of (fun h => ?_) (fun h => ?_) <;> simp only [decide_eq_true_eq, decide_eq_false_iff_not] at h
        · have hx : k < m := by omega
          have hx1 : 1 + k < P.length := by omega
          have hwk := wrapNat (i := k) (by omega)
          have q1 : P[1 + k]? = some P[1 + k] := List.getElem?_eq_getElem hx1
          have hni := sp_numI_eq P[1 + k] (hs1sz _ (List.getElem_mem hx1))
          have hd : P.drop (1 + k) = P[1 + k] :: P.drop (1 + k + 1) := List.drop_eq_getElem_cons hx1
          rw [hd] at hRk
          have hg : gL (P[1 + k] :: P.drop (1 + k + 1)) l = if numB P[1 + k] = true ∧ 0 ≤ numV P[1 + k] ∧ numV P[1 + k] ≤ 3 then gL (P.drop (1 + k + 1)) (l ||| 2 ^ (numV P[1 + k]).toNat) else none := by rw [gL]
          generalize hww : P[1 + k] = w at *
          cases hb : numB w with
          | false =>
            rw [hb] at hni
            rw [if_neg (fun h => by rw [hb] at h; exact absurd h.1 (by decide))] at hg
            have hR2 : R = none := by rw [hRk, hg]; split <;> rfl
            clear hRk
            subst hR2
            simp -dsimp -implicitDefEqProofs [hx, hx1, q1, hww, hni, rpA, rpB, hsub]
          | true =>
            rw [hb] at hni
            by_cases hin : 0 ≤ numV w ∧ numV w ≤ 3
            · obtain ⟨hin0, hin3⟩ := hin
              obtain ⟨j, hj⟩ := Int.eq_ofNat_of_zero_le hin0
              rw [if_pos ⟨hb, hin0, hin3⟩, hj, Int.toNat_natCast] at hg
              rw [hg] at hRk
              rw [hj] at hni hin0 hin3
              have hj4 : j < 4 := by omega
              have hj3 : (j : Int) ≤ 3 := by omega
              have hjn : ¬ (j : Int) < 0 := by omega
              have hsh := shl4 j hj4
              have ho := or_loops hl hj4
              simp at ho
              simp -dsimp -implicitDefEqProofs [hx, hx1, q1, hww, hni, hj3, hjn, hsh, ho, hwk]
              exact .mk (k + 1, l ||| 2 ^ j) ⟨by simp only; omega, or_lt16 hl hj4, by rw [hRk]; rfl⟩ (by simp only; omega) (Sub.keep (by simp) (by simp [hsub, r3, rr, t3, tr]) (by simp [hwk]))
            · have hbn : (decide (0 ≤ numV w) && decide (numV w ≤ 3)) = false := by
                rw [Bool.and_eq_false_iff]
                simp only [decide_eq_false_iff_not]
                omega
              rw [if_neg (fun h => hin h.2)] at hg
              have hR2 : R = none := by rw [hRk, hg]; split <;> rfl
              clear hRk
              subst hR2
              by_cases hin0 : 0 ≤ numV w
              · have hin3 : ¬ numV w ≤ 3 := fun h => hin ⟨hin0, h⟩
                simp -dsimp -implicitDefEqProofs [hx, hx1, q1, hww, hni, hin0, hin3, rpA, rpB, hsub]
              · simp -dsimp -implicitDefEqProofs [hx, hx1, q1, hww, hni, hin0, rpA, rpB, hsub]
        · have hi : k = m := by omega
          subst hi
          have hdn : P.drop (1 + k) = [] := List.drop_eq_nil_of_le (by omega)
          rw [hdn, gL, Option.bind_some] at hRk
          rcases hgc with ⟨rfl, _⟩ | ⟨rfl, _⟩
          · rw [if_pos rfl, hF] at hRk
            have hRk : R = (open Classical in if ipF s gn ge l L then some (gn, ge, l, L) else none) := hRk
            have hv := sp_patOk_eq gn ge l L ⟨by omega, by omega, by simp only [maxLen]; omega⟩
            cases hp : patOk gn ge l L with
            | false =>
              rw [hp] at hv
              have hR2 : R = none := by rw [hRk, if_neg]; intro h; rw [ipF, hp] at h; exact absurd h.1 (by decide)
              clear hRk hRF
              subst hR2
              simp -dsimp -implicitDefEqProofs [hv, rpA, rpB, hsub]
            | true =>
              rw [hp] at hv
              have htx := Rw.sp_patTxR_eq gn ge l L ⟨hp, by omega, by omega⟩
              cases hq : (patT gn ge l L == s) with
              | false =>
                have hq' : (patT gn ge l L != s) = true := by unfold bne; rw [hq]; rfl
                have hR2 : R = none := by rw [hRk, if_neg]; intro h; rw [ipF, hq] at h; exact absurd h.2 (by decide)
                clear hRk hRF
                subst hR2
                simp -dsimp -implicitDefEqProofs [hv, htx, hq, hq', rpA, rpB, hsub]
              | true =>
                have hq' : (patT gn ge l L != s) = false := by unfold bne; rw [hq]; rfl
                have hR2 : R = some (gn, ge, l, L) := by rw [hRk, if_pos]; exact ⟨hp, hq⟩
                clear hRk hRF
                subst hR2
                simp -dsimp -implicitDefEqProofs [hv, htx, hq, hq', rpA, rpB, o1, o2, hsub]
          · have hR2 : R = none := by rw [hRk]; rfl
            clear hRk hRF
            subst hR2
            simp -dsimp -implicitDefEqProofs [rpA, rpB, hsub]
    · have hR2 : R = none := by rw [hR, if_neg fun h => h4 h.2]
      clear hR
      subst hR2
      have h4i : ¬ (W.length : Int) = 4 := by omega
      have h4b : ((W.length : Int) != 4) = true := by simpa using h4i
      simp -dsimp -implicitDefEqProofs [c_impl_ReadPattern, r_impl_ReadPattern, hsp, rr, hsi, h4, h4i, h4b, rpA, rpB, hsub]
  · have hR2 : R = none := by rw [hR, if_neg fun h => hs h.1]
    clear hR
    subst hR2
    have hsi : (400 : Int) < s.size := by omega
    simp -dsimp -implicitDefEqProofs [c_impl_ReadPattern, r_impl_ReadPattern, hsp, rr, hsi, rpA, rpB, hsub]
end Go.Proofs.YtlglgcmpeabdnaaGreatDoorAi
end

section
/- The law of ValidPattern. -/
namespace Go.Proofs.YtlglgcmpeabdnaaGreatDoorAi
open Go Go.RowKit
set_option linter.unusedVariables false
set_option linter.unusedSimpArgs false

end Go.Proofs.YtlglgcmpeabdnaaGreatDoorAi
end

section
/- The law of EvenPattern. -/
namespace Go.Proofs.YtlglgcmpeabdnaaGreatDoorAi
open Go Go.RowKit
set_option linter.unusedVariables false
set_option linter.unusedSimpArgs false
set_option maxRecDepth 20000

@[simp] theorem evenL_len (n : Int) : (evenL n).length = n.toNat := by simp [evenL]
theorem eqPat_refl (a b c : Int) (ps : List Fr) (h : ps.length ≤ maxLen) : sp_eqPattern [.agg [.int .i64 a, .int .u32 b, .int .u32 c, .sl (frsA ps) false], .agg [.int .i64 a, .int .u32 b, .int .u32 c, .sl (frsA ps) false]] = some (.bool true) := by
  rw [sp_eqPattern_eq a b c ps a b c ps h]; simp
theorem eqPat_nil (a b c : Int) : sp_eqPattern [.agg [.int .i64 a, .int .u32 b, .int .u32 c, .sl [] false], .agg [.int .i64 a, .int .u32 b, .int .u32 c, .sl [] false]] = some (.bool true) := eqPat_refl a b c [] (by simp [maxLen])
theorem heldPat_nil (a b c k : Int) (h : kOk k) : sp_heldPat [.agg [.int .i64 a, .int .u32 b, .int .u32 c, .sl [] false], .int .i64 k] = some (.int .i64 k) := by
  have := sp_heldPat_eq a b c 0 k ⟨h, by omega⟩
  simpa [marksF, mapA] using this
theorem k1_ok : kOk 1 := by unfold kOk; omega
end Go.Proofs.YtlglgcmpeabdnaaGreatDoorAi
end

section
/- Contracts: texts of patterns; the law PatternText. -/
namespace Go.Proofs.YtlglgcmpeabdnaaGreatDoorAi
open Go Go.RowKit
set_option linter.unusedVariables false
set_option linter.unusedSimpArgs false
set_option maxRecDepth 20000

def patTT (n e l : Int) (ps : List Fr) : ByteArray := if patOk n e l ps = true then patT n.toNat e l ps else noB
noncomputable def sp_patText : List AV → Option (AV) := pf (ι := (Int) × (Int) × (Int) × (List Fr)) (α := AV) (fun ⟨n, e, l, ps⟩ => (0 ≤ e ∧ e ≤ 4294967295) ∧ (0 ≤ l ∧ l ≤ 4294967295) ∧ ps.length ≤ maxLen) (fun ⟨n, e, l, ps⟩ => [.agg [.int .i64 n, .int .u32 e, .int .u32 l, .sl (frsA ps) false]]) (fun ⟨n, e, l, ps⟩ => .str (patTT n e l ps))
theorem sp_patText_eq (n e l : Int) (ps : List Fr) (h : (0 ≤ e ∧ e ≤ 4294967295) ∧ (0 ≤ l ∧ l ≤ 4294967295) ∧ ps.length ≤ maxLen) : sp_patText [.agg [.int .i64 n, .int .u32 e, .int .u32 l, .sl (frsA ps) false]] = some (.str (patTT n e l ps)) := by
  unfold sp_patText
  exact pf_eq (ι := (Int) × (Int) × (Int) × (List Fr)) (α := AV) (n, e, l, ps) h (by rintro ⟨n', e', l', ps'⟩ _ e; simp_all [Int.natCast_inj])
/-! ### the reference's -/
def wt8B : ByteArray := ⟨#[10, 119, 101, 105, 103, 104, 116, 115]⟩
def wsW (w : ByteArray) (L : List Fr) : ByteArray := L.foldl (fun w x => w ++ (sepB ++ frS x)) w
theorem wsW_snoc (w : ByteArray) (L : List Fr) (i : Nat) (h : i < L.length) : wsW w (L.take (i + 1)) = wsW w (L.take i) ++ (sepB ++ frS L[i]) := by
  unfold wsW
  rw [take_snoc L i h, List.foldl_append]; rfl
theorem fracsT_sn (l : List Fr) (j : Nat) (h : j < l.length) : fracsT (l.take (j + 1)) = if j = 0 then frS l[j] else fracsT (l.take j) ++ (oneB ++ frS l[j]) := by
  unfold fracsT
  rw [take_snoc l j h, List.map_append]
  by_cases e : j = 0
  · subst e
    show joinT ([] ++ [frS l[0]]) oneB = _
    rw [List.nil_append, joinT_one]
    rfl
  · rw [if_neg e]
    have : (l.take j).map frS ≠ [] := by
      intro h0
      have h1 := congrArg List.length h0
      simp at h1
      rcases h1 with h1 | h1
      · exact e h1
      · subst h1; simp at h
    exact joinT_snoc _ _ _ this
theorem wsW_join (w : ByteArray) (L : List Fr) : ∀ j, 0 < j → j ≤ L.length → wsW w (L.take j) = w ++ (sepB ++ fracsT (L.take j))
  | 0, h, _ => absurd h (Nat.lt_irrefl 0)
  | j + 1, _, h => by
    rw [wsW_snoc w L j h, fracsT_sn L j h]
    by_cases hj : j = 0
    · subst hj; rfl
    · rw [if_neg hj, wsW_join w L j (by omega) (by omega)]
      simp only [ByteArray.append_assoc]
      rfl
theorem wsW_size (L : List Fr) (h : allOk L = true) : ∀ (w : ByteArray), w.size ≤ (wsW w L).size ∧ (wsW w L).size ≤ w.size + L.length * 44 := by
  induction L with
  | nil => intro w; exact ⟨Nat.le_refl _, by simp [wsW]⟩
  | cons x r ih =>
    intro w
    have h1 := ih (by unfold allOk at *; rw [List.all_cons, Bool.and_eq_true] at h; exact h.2) (w ++ (sepB ++ frS x))
    have h2 := frS_size (allOk_get h x (List.mem_cons_self ..))
    have h3 : sepB.size = 1 := rfl
    show w.size ≤ (wsW (w ++ (sepB ++ frS x)) r).size ∧ (wsW (w ++ (sepB ++ frS x)) r).size ≤ _
    simp only [ByteArray.size_append] at h1
    rw [List.length_cons]
    omega
theorem patT_eq (n : Nat) (e l : Int) (ps : List Fr) (h : ps ≠ []) : wsW (lpW l (patW0 n e) n ++ wt8B) ps ++ lineB = patT n e l ps := by
  have := wsW_join (lpW l (patW0 n e) n ++ wt8B) ps ps.length (List.length_pos_iff.2 h) (Nat.le_refl _)
  rw [List.take_length] at this
  rw [this]
  unfold patT
  have e1 : weiB = wt8B ++ sepB := by apply ByteArray.ext; rfl
  rw [e1]
  simp only [ByteArray.append_assoc]
theorem w0_eq (m : Nat) (e l : Int) : (⟨#[112, 97, 116, 116, 101, 114, 110, 32]⟩ : ByteArray) ++ grT e m ++ ⟨#[10, 108, 111, 111, 112, 115]⟩ = lpW l (patW0 m e) 0 := by
  show patB ++ grT e m ++ (⟨#[10, 108, 111, 111, 112, 115]⟩ : ByteArray) = patB ++ grT e m ++ lineB ++ loopsB
  have e1 : (⟨#[10, 108, 111, 111, 112, 115]⟩ : ByteArray) = lineB ++ loopsB := by apply ByteArray.ext; rfl
  rw [e1]
  simp only [ByteArray.append_assoc]
set_option maxHeartbeats 1000000 in
theorem q_spec_PatternText : QP PP 31 sp_patText := by
  refine QP_pf (fun i h => ?_) fun i h => ?_
  · obtain ⟨n, e, l, ps⟩ := i; exact ⟨by first | rfl | simp, by first | rfl | simp⟩
  obtain ⟨n, e, l, ps⟩ := i
  replace h : (0 ≤ e ∧ e ≤ 4294967295) ∧ (0 ≤ l ∧ l ≤ 4294967295) ∧ ps.length ≤ maxLen := h
  refine P_code (Quiet.q1 q_spec_GraphText (Quiet.q1 q_spec_Decimal (Quiet.q1 q_spec_FractionText (Quiet.e1 m_spec_l07Ok.toE (Quiet.e1 v_spec_l07Joined.toE Quiet.nil))))) hmix k_spec_PatternText rfl ?_ ?_
  · first | rfl | simp
  show wpc 0 PP _ c_spec_PatternText (initSt [.agg [.int .i64 n, .int .u32 e, .int .u32 l, .sl (frsA ps) false]] .nil) (endP r_spec_PatternText (.str (patTT n e l ps)))
  have hv := sp_l07Ok_eq n e l ps h
  unfold patTT
  cases hb : patOk n e l ps with
  | false =>
    rw [hb] at hv
    simp -dsimp -implicitDefEqProofs [c_spec_PatternText, r_spec_PatternText, hv, noB]
  | true =>
    rw [hb] at hv
    obtain ⟨hn, hlen, hall, hg⟩ := patOk_in hb
    obtain ⟨m, rfl⟩ := Int.eq_ofNat_of_zero_le (show 0 ≤ n by omega)
    obtain ⟨he, hl, _⟩ := h
    have hm5 : m ≤ 5 := by omega
    have ht := sp_graphText_eq m e he
    unfold graphT at ht
    rw [if_pos hg, Int.toNat_natCast] at ht
    have sg := grT_sz (e := e) hm5
    have z1 : 8 + (grT e m).size ≤ 9223372036854775807 := by omega
    have z2 : 8 + (grT e m).size + 6 ≤ 9223372036854775807 := by omega
    have hne : ps ≠ [] := by intro h0; rw [h0] at hlen; simp at hlen; omega
    have hfin := patT_eq m e l ps hne
    rw [if_pos rfl, Int.toNat_natCast, ← hfin]
    simp -dsimp -implicitDefEqProofs [c_spec_PatternText, r_spec_PatternText, hv, ht, z1, z2]
    refine wpLoop_st (fun (i : Nat) => ⟨tl [(1, .ptr 0 0), (3, .str (lpW l (patW0 m e) i)), (4, .int .i64 i)], ⟨[some [.int .i64 m, .int .u32 e, .int .u32 l, .sl (frsA ps) false]]⟩⟩) (fun i => i ≤ m) (fun i => m - i) 0 (Nat.zero_le _) (Sub.keep (by simp) (by simp [hsub]) (by simp; exact w0_eq m e l)) ?_
    intro i hi
    have sw := patW0_size (e := e) hm5
    have sz := lpW_size l (patW0 m e) i (by omega)
    simp -dsimp -implicitDefEqProofs
    refine brW_of (fun h => ?_) (fun h => ?_) <;> simp only [decide_eq_true_eq, decide_eq_false_iff_not] at h
    · have hx : i < m := by omega
      have hwi := wrapNat (i := i) (by omega)
      have hlp := sp_joinP_eq m e l ps i i ⟨⟨he, hl⟩, ⟨by omega, by omega⟩, ⟨by omega, by omega⟩⟩
      have hjb : joinB e l i i = loopB l i := by unfold joinB; rw [if_pos rfl]
      rw [hjb] at hlp
      have hes : lpW l (patW0 m e) (i + 1) = if loopB l i = true then lpW l (patW0 m e) i ++ (sepB ++ decB i) else lpW l (patW0 m e) i := rfl
      generalize lpW l (patW0 m e) i = W at *
      cases hb : loopB l i with
      | false =>
        rw [hb] at hlp hes
        have hes : lpW l (patW0 m e) (i + 1) = W := hes
        simp -dsimp -implicitDefEqProofs [hx, hlp, hwi]
        exact .mk (i + 1) (by omega) (by omega) (Sub.keep (by simp) (by simp [hsub]) (by simp [hwi, hes]))
      | true =>
        rw [hb] at hlp hes
        have hes : lpW l (patW0 m e) (i + 1) = W ++ (sepB ++ decB i) := hes
        have hd := sp_decS_eq i (by omega)
        have sd := decB_size i (by omega) (by omega)
        have y1 : 1 + (decB i).size ≤ 9223372036854775807 := by omega
        have y2 : W.size + (1 + (decB i).size) ≤ 9223372036854775807 := by omega
        simp -dsimp -implicitDefEqProofs [hx, hlp, hwi, hd, y1, y2]
        exact .mk (i + 1) (by omega) (by omega) (Sub.keep (by simp) (by simp [hsub]) (by simp [hwi, hes, sepB]))
    · obtain rfl : i = m := by omega
      generalize lpW l (patW0 i e) i = W at *
      have y1 : W.size + 8 ≤ 9223372036854775807 := by omega
      simp -dsimp -implicitDefEqProofs [y1]
      refine wpLoop_st (fun (j : Nat) => ⟨tl [(1, .ptr 0 0), (3, .str (wsW (W ++ wt8B) (ps.take j))), (5, .int .i64 j)], ⟨[some [.int .i64 i, .int .u32 e, .int .u32 l, .sl (frsA ps) false]]⟩⟩) (fun j => j ≤ ps.length) (fun j => ps.length - j) 0 (Nat.zero_le _) (Sub.keep (by simp) (by simp [hsub]) (by simp [wsW, wt8B])) ?_
      intro j hj
      have s8 : (W ++ wt8B).size = W.size + 8 := by rw [ByteArray.size_append]; rfl
      have hta : allOk (ps.take j) = true := by
        unfold allOk
        exact List.all_eq_true.2 fun x hx' => allOk_get hall x (List.mem_of_mem_take hx')
      have sz2 := wsW_size (ps.take j) hta (W ++ wt8B)
      have stk : (ps.take j).length ≤ 4 := by rw [List.length_take]; omega
      simp -dsimp -implicitDefEqProofs
      refine brW_of (fun h => ?_) (fun h => ?_) <;> simp only [decide_eq_true_eq, decide_eq_false_iff_not] at h
      · have hx : j < ps.length := by omega
        have hwj := wrapNat (i := j) (by omega)
        have hoj := allOk_get hall ps[j] (List.getElem_mem hx)
        have hft := sp_fracText_eq ps[j].p ps[j].q
        have e7 : fracT ps[j].p ps[j].q = frS ps[j] := by unfold fracT; rw [if_pos hoj]; rfl
        rw [e7] at hft
        have s5 := frS_size hoj
        have hsn := wsW_snoc (W ++ wt8B) ps j hx
        generalize wsW (W ++ wt8B) (ps.take j) = V at *
        have y2 : 1 + (frS ps[j]).size ≤ 9223372036854775807 := by omega
        have y3 : V.size + (1 + (frS ps[j]).size) ≤ 9223372036854775807 := by omega
        simp -dsimp -implicitDefEqProofs [hx, hwj, hft, y2, y3, e7]
        exact .mk (j + 1) (by omega) (by omega) (Sub.keep (by simp) (by simp [hsub]) (by simp [hwj, hsn, sepB, e7]))
      · obtain rfl : j = ps.length := by omega
        rw [List.take_length] at *
        have y2 : (wsW (W ++ wt8B) ps).size + 1 ≤ 9223372036854775807 := by omega
        simp -dsimp -implicitDefEqProofs [y2, lineB]
end Go.Proofs.YtlglgcmpeabdnaaGreatDoorAi
end
