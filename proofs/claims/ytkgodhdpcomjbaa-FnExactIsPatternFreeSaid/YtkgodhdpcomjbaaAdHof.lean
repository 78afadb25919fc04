/- Contracts of functions that take functions. -/
import Derived.Test.YtkgodhdpcomjbaaAdNat
namespace Go.Proofs.YtkgodhdpcomjbaaAi
open Go Go.RowKit
set_option linter.unusedVariables false
set_option linter.unusedSimpArgs false
set_option maxRecDepth 20000
variable {P : Program}

theorem T.of_closed {f : FuncId} {args : List AV} {A : AHeap} {R : AV → AHeap → Prop} (he : Enters P f) (h : ClosedH A.l → ltL A.n args = true → T P f args A R) : T P f args A R := by
  refine ⟨he, fun B w0 σ w vs hG hb hs ha => (h (fun b cs e => ?_) ?_).2 B w0 σ w vs hG hb hs ha⟩
  · obtain ⟨c, cur, t, k1, k2, k3, k4, k5, k6⟩ := hs.own b cs e
    refine ltL_of fun x hx => ?_
    obtain ⟨j, hj⟩ := List.mem_iff_getElem?.1 hx
    obtain ⟨v, _, e2, _⟩ := k6 j x hj
    exact hs.lt_of x v e2
  · refine ltL_of fun x hx => ?_
    obtain ⟨j, hj⟩ := List.mem_iff_getElem?.1 hx
    have hlt : j < vs.length := by rw [← ha.1]; exact (List.getElem?_eq_some_iff.1 hj).1
    exact hs.lt_of x _ (ha.2 j x _ hj (List.getElem?_eq_getElem hlt))

theorem rowE_congr {J J' : Nat → Nat → Bool} {j e : Nat} : ∀ {i : Nat}, (∀ a, a < i → J a j = J' a j) → rowE J j e i = rowE J' j e i
  | 0, _ => rfl
  | i + 1, h => by rw [rowE, rowE, h i (by omega), rowE_congr (fun a ha => h a (by omega))]
theorem madeE_congr {J J' : Nat → Nat → Bool} : ∀ {n : Nat}, (∀ i j, i < j → j < n → J i j = J' i j) → madeE J n = madeE J' n
  | 0, _ => rfl
  | n + 1, h => by rw [madeE, madeE, madeE_congr (fun i j hi hj => h i j hi (by omega)), rowE_congr (fun a ha => h a n ha (by omega))]

def yesOf (sp : List AV → AHeap → Option (AV × AHeap)) (args : List AV) (A : AHeap) : Bool := match sp args A with
  | some (.bool b, _) => b
  | _ => false
open Classical in
noncomputable def spMade (g : FuncId) (sp : List AV → AHeap → Option (AV × AHeap)) : List AV → AHeap → Option (AV × AHeap)
  | [.int .i64 n, .fn g' caps], A => if g' = g ∧ 0 ≤ n ∧ n ≤ 5 ∧ ∀ i j : Nat, i < j → j < n.toNat → sp ([.int .i64 i, .int .i64 j] ++ caps) A = some (.bool (yesOf sp ([.int .i64 i, .int .i64 j] ++ caps) A), A)
      then some (.agg [.int .i64 n, .int .u32 (madeE (fun i j => yesOf sp ([.int .i64 i, .int .i64 j] ++ caps) A) n.toNat)], A) else none
  | _, _ => none
theorem spMade_eq {g : FuncId} {sp : List AV → AHeap → Option (AV × AHeap)} (J : Nat → Nat → Bool) {n : Int} {caps : List AV} {A : AHeap} (hn : 0 ≤ n ∧ n ≤ 5) (h : ∀ i j : Nat, i < j → j < n.toNat → sp ([.int .i64 i, .int .i64 j] ++ caps) A = some (.bool (J i j), A)) :
    spMade g sp [.int .i64 n, .fn g caps] A = some (.agg [.int .i64 n, .int .u32 (madeE J n.toNat)], A) := by
  have hy : ∀ i j : Nat, i < j → j < n.toNat → yesOf sp ([.int .i64 i, .int .i64 j] ++ caps) A = J i j := by
    intro i j hi hj
    unfold yesOf
    rw [h i j hi hj]
  unfold spMade
  dsimp only
  rw [if_pos ⟨rfl, hn.1, hn.2, fun i j hi hj => by rw [hy i j hi hj]; exact h i j hi hj⟩, madeE_congr hy]
theorem QE_made {g : FuncId} {sp : List AV → AHeap → Option (AV × AHeap)} (hg : QE PP g sp) : QE PP 80 (spMade g sp) := by
  intro args A r A1 e
  unfold spMade at e
  split at e
  · rename_i n g' caps
    split at e
    · rename_i hc
      obtain ⟨rfl, h0, h5, hJ⟩ := hc
      injection e with e
      injection e with e1 e2
      subst e1; subst e2
      obtain ⟨m, rfl⟩ := Int.eq_ofNat_of_zero_le h0
      refine T.of_closed (T_made (g := g') (caps := []) (os := []) yes 0 (by omega) ClosedH.nil rfl (fun i j _ hj => absurd hj (Nat.not_lt_zero _))).1 fun ho hl => ?_
      exact T_made (os := A.l) _ m (by omega) ho (by simpa [ltL, AV.lt] using hl) fun i j hi hj => hg _ _ _ _ (hJ i j hi hj)
    · cases e
  · cases e
end Go.Proofs.YtkgodhdpcomjbaaAi
